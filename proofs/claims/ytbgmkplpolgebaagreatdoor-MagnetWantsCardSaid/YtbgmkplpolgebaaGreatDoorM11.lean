/-
  Several texts in one, in their build order. The walk of hash.FromHex: hexadecimal digits read. Condition: the text is no longer than the bound. The walks of Nibble and FromHex of the reference. Condition: the text is no longer than the bound. The walks of plain (package magnet and its reference) and of the reference's nibble. No condition. A strings.Builder that the call made: what it holds, and what writing and reading it do. Conditions: as they stand (lengths).
-/
import Derived.Test.YtbgmkplpolgebaaGreatDoorM9
import Derived.Test.YtbgmkplpolgebaaGreatDoorM3
import Derived.Test.YtbgmkplpolgebaaGreatDoorM2
import Derived.Test.YtbgmkplpolgebaaGreatDoorM10
import Derived.Test.YtbgmkplpolgebaaGreatDoorM1
import Derived.Shelf.Strings.BuilderK
namespace Go.Proofs.YtbgmkplpolgebaaGreatDoor
set_option linter.unusedSimpArgs false
set_option linter.unusedVariables false
open Go.RowKit

theorem idx_any (t : UInt8) (w : World) : Calls Tryz.prog 153 #[.string ⟨#[48, 49, 50, 51, 52, 53, 54, 55, 56, 57, 97, 98, 99, 100, 101, 102]⟩, .int .u8 (t.toNat : Int)] w fun e w' => e = .returned (.int .i64 (nibI t)) ∧ w = w' := by
  refine (Tryz.strings_IndexByte ⟨#[48, 49, 50, 51, 52, 53, 54, 55, 56, 57, 97, 98, 99, 100, 101, 102]⟩ (t.toNat : Int) w).mono ?_
  rintro e w' ⟨rfl, rfl⟩
  have h1 : ((t.toNat : Int).toNat.toUInt8) = t := by simp
  have h2 := index_nib t
  unfold hexLows at h2
  rw [h1]
  exact ⟨by rw [← h2], rfl⟩
theorem ret_hexE {l : List UInt8} {b : ByteArray} {e : Int} (h1 : b = ⟨(unhexB l).toArray⟩) (h2 : e = unhexE l) : Ending.returned (.tuple #[.string b, .int .i64 e]) = .returned (.tuple #[.string ⟨(unhexB l).toArray⟩, .int .i64 (unhexE l)]) := by rw [h1, h2]
set_option maxRecDepth 100000 in
set_option maxHeartbeats 4000000 in
theorem fromHex_any (t : ByteArray) (w : World) (hs : t.size ≤ 65536) : Calls Tryz.prog 167 #[.string t] w fun e w' => e = .returned (.tuple #[.string ⟨(unhexB t.data.toList).toArray⟩, .int .i64 (unhexE t.data.toList)]) ∧ New w w' := by
  have hlen : t.data.toList.length = t.size := by rw [Array.length_toList]; rfl
  obtain ⟨i0, hi, hz0, hz1, hz2⟩ := info_parts info_byte
  have hb1 : ¬ (65536 : Int) < (t.size : Int) := by omega
  by_cases hodd : t.size % 2 = 1
  · have HNO := hid (unhex_no (unhex_odd t.data.toList (by omega)))
    have hbI : ((t.size : Int) % 2 != 0) = true := by rw [bne_iff_ne]; omega
    clear hodd
    go_enter Tryz.func167, Tryz.ntmps167
    go_wp2
    go_ret2
    exact ⟨ret_hexE (by rw [HNO.out.1]) HNO.out.2.symm, Mod.refl _ _⟩
  have hbI : ((t.size : Int) % 2 != 0) = false := by rw [bne_eq_false_iff_eq]; omega
  have HEV := hid (show t.data.toList.length % 2 = 0 by omega)
  have HIX := hid (fun k (h : k < t.size) W => idx_any t[k] W)
  clear hodd
  go_enter Tryz.func167, Tryz.ntmps167
  go_wp2
  go_loopw [4, 16] (fun v i wr => ∃ (k : Nat) (o : Value), o = v ∧ i = .int .i64 k ∧ k ≤ t.size ∧ (∀ c ∈ t.data.toList.take k, (nib c).isSome = true) ∧ OwnY wr w.heap.size o (half (t.data.toList.take k)) ∧ New w wr) (fun _ i _ => t.size - (intOf i).toNat)
  case atStart => exact ⟨0, _, rfl, rfl, by omega, by simp, OwnY.nil _ _, Mod.refl _ _⟩
  case round =>
    obtain ⟨k, o, rfl, rfl, hk, hnb, ho, hn⟩ := hrel
    have HO := hid ho; have HN := hid hn; have HNB := hid hnb
    clear ho hn hnb
    by_cases hlt : k < t.size
    · have hltI : (k : Int) < (t.size : Int) := by omega
      have hix := HIX.out k hlt
      have hmem : t[k] ∈ t.data.toList := by rw [← byteAtL t hlt]; exact List.getElem_mem _
      cases hnb : nib t[k] with
      | none =>
        rw [nibI_none hnb] at hix
        have HX := hid hix
        have HNO := hid (unhex_no (unhex_bad t.data.toList _ hmem hnb))
        clear hix hmem hnb
        go_wp2_with fail
        refine (HX.out _).mono ?_
        rintro e w2 ⟨rfl, rfl⟩
        go_wp2
        go_ret2
        exact ⟨ret_hexE (by rw [HNO.out.1]) HNO.out.2.symm, HN.out⟩
      | some d =>
        rw [nibI_some hnb] at hix
        have HX := hid hix
        have hd16 := nib_lt hnb
        have hdd : nibD t[k] = d := by unfold nibD; rw [hnb]; rfl
        have HNB2 : Hid (∀ c ∈ t.data.toList.take (k + 1), (nib c).isSome = true) := hid (fun c hc => by
          rw [List.take_add_one, List.getElem?_eq_getElem (by omega)] at hc
          rcases List.mem_append.1 hc with q | q
          · exact HNB.out c q
          · simp only [Option.toList, List.mem_singleton] at q
            rw [q, byteAtL t hlt, hnb]
            rfl)
        clear hix hmem hnb
        rcases Nat.mod_two_eq_zero_or_one k with he | he
        · have HNX := hid (half_next0 (l := t.data.toList) (k := k) (by omega) he)
          rw [byteAtL t hlt, hdd] at HNX
          have heI : ((k : Int) % 2 == 0) = true := by rw [beq_iff_eq]; omega
          go_wp2_with fail
          refine (HX.out _).mono ?_
          rintro e w2 ⟨rfl, rfl⟩
          have HV := hid (show (d : Int) * 16 = ((UInt8.ofNat (16 * d)).toNat : Int) by rw [mk_high hd16]; omega)
          have hl1 : (half (t.data.toList.take k)).length ≤ 70000 := by rw [half_len, List.length_take]; omega
          have h63 : (half (t.data.toList.take k)).length + 1 ≤ maxLen := by unfold maxLen; omega
          have hby : ((half (t.data.toList.take k)).length + 1) * 1 ≤ 140737488355328 := by omega
          go_wp2_with (at_builtin; refine wpList_append_own_at _ rfl _ _ 42 rfl w.heap.size 5 i0 (.int .u8 0) 1 1 Tryz.underlying42 hi hz0 hz1 hz2 rfl (by decide) o _ _ rfl (HO.out.new ((Mod.refl _ _).alloc _)) ⟨wr.heap.size, 0, none⟩ 1 1 [.int .u8 ((d : Int) * 16)] rfl rfl (World.news_of_block (heap_alloc_new _ _)) (by intro u hu; simp at hu; subst hu; rfl) h63 hby ?hba ?_)
          case hba => have := HN.out.size; simp; omega
          intro o2 w2 r2 g2 _ l2
          have HO2 : Hid (OwnY w2 w.heap.size o2 (half (t.data.toList.take (k + 1)))) := hid (by
            rw [HNX.out]
            refine ownY_of _ ?_
            rw [HV.out] at r2
            exact r2)
          have HN2 : Hid (New w w2) := hid (new_grownY (HO.out.new ((Mod.refl _ _).alloc _)) (Nat.le_refl _) (HN.out.alloc _) g2)
          clear r2 g2 l2
          go_wp2
          exact ⟨⟨k + 1, _, rfl, by simp, by omega, HNB2.out, HO2.out, HN2.out⟩, by simp [intOf]; omega⟩
        · obtain ⟨p, a, ha16, hpl, hp1, hp2⟩ := half_next1 (l := t.data.toList) (k := k) (by omega) he
          rw [byteAtL t hlt, hdd] at hp2
          have HP2 := hid hp2
          rw [hp1] at HO
          have heI : ((k : Int) % 2 == 0) = false := by rw [beq_eq_false_iff_ne]; omega
          have hq : (k : Int) / 2 = (p.length : Int) := by omega
          have HOR : Hid (bits .or .u8 (16 * (a : Int) % 256) (d : Int) = ((UInt8.ofNat (16 * a + d)).toNat : Int)) := hid (by
            have := or_low ha16 hd16
            rw [mk_high ha16] at this
            rw [Int.emod_eq_of_lt (by omega) (by omega)]
            exact this)
          rcases HO.out.form with ⟨-, q⟩ | ⟨g, cap, rfl, hg0, hg1, hcap, hcm, hcell, hfz⟩
          · simp at q
          have hc1 := hcell p.length (by simp)
          rw [List.getElem_append_right (by simp)] at hc1
          simp only [Nat.sub_self, List.getElem_cons_zero] at hc1
          have hf1 := hfz p.length
          have HPUT := hid (HO.out.put (i := p.length) (by simp) (UInt8.ofNat (16 * a + d)))
          have hset : (p ++ [UInt8.ofNat (16 * a)]).set p.length (UInt8.ofNat (16 * a + d)) = p ++ [UInt8.ofNat (16 * a + d)] := by simp
          rw [hset, ← HP2.out] at HPUT
          have hln : (p ++ [UInt8.ofNat (16 * a)]).length = p.length + 1 := by simp
          rw [hln] at HPUT HO hcap ⊢
          have hG := hid hg0
          obtain ⟨n, hn⟩ : ∃ n, n = p.length := ⟨_, rfl⟩
          rw [← hn] at HPUT HO hcap hq hc1 hf1 ⊢
          clear hpl hn hln
          clear hset hp1 hp2 hcell hfz
          go_wp2_with fail
          refine (HX.out _).mono ?_
          rintro e w2 ⟨rfl, rfl⟩
          go_wp2
          rw [HOR.out]
          exact ⟨⟨k + 1, _, rfl, by simp, by omega, HNB2.out, HPUT.out, new_putY HN.out hG.out⟩, by simp [intOf]; omega⟩
    · have hkl : t.data.toList.take k = t.data.toList := List.take_of_length_le (by omega)
      rw [hkl] at HO HNB
      have HY := hid (unhex_yes (unhex_half _ HEV.out HNB.out))
      have HT := hid (ownY_text HO.out)
      have hcv := HT.out
      clear hkl
      go_wp2
      go_ret2
      exact ⟨ret_hexE (by rw [HY.out.1]) HY.out.2.symm, HN.out⟩
end Go.Proofs.YtbgmkplpolgebaaGreatDoor

namespace Go.Proofs.YtbgmkplpolgebaaGreatDoor
set_option linter.unusedSimpArgs false
set_option linter.unusedVariables false
open Go.RowKit

end Go.Proofs.YtbgmkplpolgebaaGreatDoor

namespace Go.Proofs.YtbgmkplpolgebaaGreatDoor
set_option linter.unusedSimpArgs false
set_option linter.unusedVariables false
open Go.RowKit Go.Shelf

end Go.Proofs.YtbgmkplpolgebaaGreatDoor

namespace Go.Proofs.YtbgmkplpolgebaaGreatDoor
set_option linter.unusedSimpArgs false
set_option linter.unusedVariables false
open Go.Shelf Go.RowKit
def bren : Go.Shelf.Ren := ⟨fun | 167 => 113 | n => Tryz.lays156_ren.f n, Tryz.lays156_ren.t, Tryz.lays156_ren.g⟩
theorem lays166 : Go.Proofs.Lays.n166 Tryz.prog Tryz.lays156_ren := { Tryz.lays156 with }
theorem lays169 : Go.Proofs.Lays.n169 Tryz.prog Tryz.lays156_ren := { Tryz.lays156 with }
theorem lays167 : Go.Proofs.Lays.n167 Tryz.prog bren := { Tryz.lays156 with f167 := Tryz.func113.trans (congrArg some (by kernel_rfl)), f240 := Tryz.lays156.f240.trans (congrArg some (by kernel_rfl)), f276 := Tryz.lays156.f276.trans (congrArg some (by kernel_rfl)), t5 := Tryz.underlying5, a5 := Tryz.isAgg5, z5 := Tryz.sizeOf5, v5 := Tryz.zeroValue5 }
theorem extra167 : Builder.Extra Tryz.prog bren := { sizeBuilder := by kernel_rfl, liesBuilder := by kernel_rfl, t5 := Tryz.underlying5, a5 := Tryz.isAgg5, z5 := Tryz.sizeOf5, v5 := Tryz.zeroValue5, infoByte := by kernel_rfl, cellsByte := by kernel_rfl, sizeByte := by kernel_rfl, neB5 := by decide }
/-- The builder in block b holds the bytes l. -/
def Bld (w : World) (b : Nat) (l : List UInt8) : Prop := Lib.IsBuilderF 138 5 b b (Lib.byteCells l) w
/-- What a call on the builder leaves: blocks from the builder's on may turn; among these, only the builder and rows of bytes do. -/
def Wrote (b : Nat) (w w' : World) : Prop := Mod (fun k => b ≤ k) w w' ∧ Lib.OthersKept 5 (some b) w w'
theorem Wrote.mod {b : Nat} {w w' : World} (h : Wrote b w w') : Mod (fun k => b ≤ k) w w' := h.1
theorem Wrote.blk {b : Nat} {w w' : World} (h : Wrote b w w') {k : Nat} {cs : Array Value} {t : TypeId} (hb : Blk w k cs t) (hk : k ≠ b) (ht : t ≠ 5) : Blk w' k cs t :=
  h.2 k _ hb (fun e => hk (Option.some.inj e)) (fun c fz e => ht (by cases e; rfl))
theorem Wrote.trans {b : Nat} {w w' w'' : World} (h : Wrote b w w') (k : Wrote b w' w'') : Wrote b w w'' := ⟨h.1.trans k.1, h.2.trans k.2⟩
/-- Behind what made memory alone. -/
theorem Wrote.new {b : Nat} {w0 w w' : World} (hn : New w0 w) (h : Wrote b w w') (hb : w0.heap.size ≤ b) : New w0 w' := hn.trans' h.1 (fun i hi x => by omega)
theorem Bld.lt {w : World} {b : Nat} {l : List UInt8} (h : Bld w b l) : b < w.heap.size := by
  rcases h with h | h <;> exact h.lt
theorem builderAt_new {T e : TypeId} {B b : Nat} {p : Value} {bs : List Value} {w w' : World} (h : Lib.BuilderAtF T e B b p bs w) (hn : New w w') : Lib.BuilderAtF T e B b p bs w' := by
  obtain ⟨hB, v, hb, hown, hne⟩ := h
  have hlt : b < w.heap.size := Lib.BuilderAtF.lt ⟨hB, v, hb, hown, hne⟩
  refine ⟨hB, v, (hn.block b hlt (fun x => x)).trans hb, ?_, hne⟩
  refine hown.kept (row := none) ⟨hn.os, hn.tape, hn.output, hn.size, fun k hk _ => hn.block k hk (fun x => x)⟩ ?_
  rcases hown.2 with ⟨rfl, _⟩ | ⟨g, cap, cur, fz, rfl, _⟩
  · exact .inl rfl
  · exact .inr (by simp [Value.ownBlock])
theorem Bld.new {w w' : World} {b : Nat} {l : List UInt8} (h : Bld w b l) (hn : New w w') : Bld w' b l := by
  rcases h with h | h
  · exact .inl (builderAt_new h hn)
  · exact .inr (builderAt_new h hn)
theorem Bld.fresh (w : World) : Bld (w.alloc (.cells #[.pointer none, .slice none 0 0] 138)) w.heap.size [] := Lib.IsBuilderF.of (Lib.fresh_isBuilder _ _ w)
theorem write_any (b : Nat) (l : List UInt8) (s : ByteArray) (w : World) (h : Bld w b l) (hlen : l.length + s.size ≤ 140737488355328) :
    Calls Tryz.prog 114 #[.pointer (some ⟨b, 0, none⟩), .string s] w fun e w' => e = .returned (.tuple #[.int .i64 s.size, .nilIface]) ∧ Bld w' b (l ++ s.data.toList) ∧ Wrote b w w' := by
  refine (@Any.Builder_WriteString_k Tryz.prog Tryz.lays156_ren lays166 Tryz.Builder_Extra_156 b b (Lib.byteCells l) s w h (by rw [Lib.byteCells_length]; exact hlen) (Nat.le_of_lt h.lt)).mono fun e w' ⟨he, h1, h2, h3⟩ => ⟨he, ?_, Mod.of_below h2, h3⟩
  refine .inr ?_
  rw [Lib.byteCells_append, ← Lib.strCells_eq]
  exact h1
theorem string_any (b : Nat) (l : List UInt8) (w : World) (h : Bld w b l) :
    Calls Tryz.prog 116 #[.pointer (some ⟨b, 0, none⟩)] w fun e w' => e = .returned (.string ⟨l.toArray⟩) ∧ Bld w' b l ∧ Wrote b w w' :=
  (@Any.Builder_String_any_k Tryz.prog Tryz.lays156_ren lays169 Tryz.Builder_Extra_156 b b l w h (Nat.le_of_lt h.lt)).mono fun e w' ⟨he, h1, h2, h3⟩ => ⟨he, h1, Mod.of_below h2, h3⟩
theorem byte_any (b : Nat) (l : List UInt8) (c : UInt8) (w : World) (h : Bld w b l) (hlen : l.length + 1 ≤ 140737488355328) :
    Calls Tryz.prog 113 #[.pointer (some ⟨b, 0, none⟩), .int .u8 c.toNat] w fun e w' => e = .returned .nilIface ∧ Bld w' b (l ++ [c]) ∧ Wrote b w w' := by
  refine (@Any.Builder_WriteByte_k Tryz.prog bren lays167 extra167 b b (Lib.byteCells l) c.toNat w h (by rw [Lib.byteCells_length]; exact hlen) (Nat.le_of_lt h.lt)).mono fun e w' ⟨he, h1, h2, h3⟩ => ⟨he, ?_, Mod.of_below h2, h3⟩
  refine .inr ?_
  rw [Lib.byteCells_append]
  exact h1
theorem size_list (l : List UInt8) : (⟨l.toArray⟩ : ByteArray).size = l.length := by simp [ByteArray.size]
end Go.Proofs.YtbgmkplpolgebaaGreatDoor
