/-
  Several texts in one, in their build order. The walks of Hex, of the program and of the reference: bytes in hexadecimal digits. Condition: the text is small. The walk of hash.FromHex: hexadecimal digits read. Condition: the text is no longer than the bound. The walks of Nibble and FromHex of the reference. Condition: the text is no longer than the bound. The walks of plain (package magnet and its reference) and of the reference's nibble. No condition.
-/
import Derived.Test.YtbgmkplpolgebaaGreatDoorM2
import Derived.Test.YtbgmkplpolgebaaGreatDoorM3
import Derived.Deep.RegionHeld3
import Derived.Deep.AppendLies
import Derived.Test.YtbgmkplpolgebaaGreatDoorM1
namespace Go.Proofs.YtbgmkplpolgebaaGreatDoor
set_option linter.unusedSimpArgs false
set_option linter.unusedVariables false
open Go.RowKit

theorem hex_next {l : List UInt8} {k : Nat} (h : k < l.length) : hexOf (l.take (k + 1)) = hexOf (l.take k) ++ [hexLow (l[k].toNat / 16), hexLow (l[k].toNat % 16)] := by
  rw [List.take_add_one, List.getElem?_eq_getElem h]
  unfold hexOf
  rw [List.flatMap_append]
  rfl
theorem byteAtL (t : ByteArray) {k : Nat} (h : k < t.size) : t.data.toList[k]'(by rw [Array.length_toList]; exact h) = t[k] := rfl
theorem and_lowL (c : UInt8) : bits .and .u8 (c.toNat : Int) 15 = ((c.toNat % 16 : Nat) : Int) := by
  have h : ∀ n : Nat, n < 256 → bits .and .u8 (n : Int) 15 = ((n % 16 : Nat) : Int) := by decide +kernel
  exact h _ c.toNat_lt
def hexLit : ByteArray := ⟨#[48, 49, 50, 51, 52, 53, 54, 55, 56, 57, 97, 98, 99, 100, 101, 102]⟩
theorem lit_at {n : Nat} (h : n < 16) : (hexLit[n]'(show n < 16 from h)) = hexLow n := by
  have h : ∀ m : _root_.Fin 16, (hexLit[m.val]'(show m.val < 16 from m.isLt)) = hexLow m.val := by decide +kernel
  exact h ⟨n, by assumption⟩
set_option maxRecDepth 100000 in
set_option maxHeartbeats 4000000 in
theorem hex_any (s : ByteArray) (w : World) (hs : s.size ≤ 70000) : Calls Tryz.prog 52 #[.string s] w fun e w' => e = .returned (.string ⟨(hexOf s.data.toList).toArray⟩) ∧ New w w' := by
  have hlen : s.data.toList.length = s.size := by rw [Array.length_toList]; rfl
  obtain ⟨i0, hi, hz0, hz1, hz2⟩ := info_parts info_byte
  go_enter Tryz.func52, Tryz.ntmps52
  go_wp2_with (refine wpList_make_own _ rfl _ _ _ rfl w.heap.size 5 i0 (.int .u8 0) 1 Tryz.underlying42 hi hz0 hz1 .i64 .i64 _ (2 * s.size) rfl rfl ?m1 ?m2 ?m3 ?m4 ?_)
  case m1 => push_cast; omega
  case m2 => rw [hz2]; omega
  case m3 => unfold maxLen; omega
  case m4 => exact Nat.le_refl _
  intro w1 r1 g1
  have HO1 : Hid (OwnY w1 w.heap.size (.slice (some ⟨w.heap.size, 0, none⟩) 0 (2 * s.size)) []) := hid r1
  have HN1 : Hid (New w w1) := hid ⟨g1.os, g1.tape, g1.output, g1.size, fun k hk _ => g1.block k hk (by simp)⟩
  clear r1 g1
  go_wp2
  go_loopw [3, 11] (fun v i wr => ∃ (k : Nat) (o : Value), o = v ∧ i = .int .i64 k ∧ k ≤ s.size ∧ OwnY wr w.heap.size o (hexOf (s.data.toList.take k)) ∧ New w wr) (fun _ i _ => s.size - (intOf i).toNat)
  case atStart => exact ⟨0, _, rfl, rfl, by omega, HO1.out, HN1.out⟩
  case round =>
    clear HO1 HN1
    obtain ⟨k, o, rfl, rfl, hk, ho, hn⟩ := hrel
    have HO := hid ho; have HN := hid hn
    clear ho hn
    by_cases hlt : k < s.size
    · have HNX := hid (hex_next (l := s.data.toList) (k := k) (by omega))
      rw [byteAtL s hlt] at HNX
      have hltI : (k : Int) < (s.size : Int) := by omega
      have eL := and_lowL s[k]
      obtain ⟨H, hH⟩ : ∃ H : Nat, H = s[k].toNat / 16 := ⟨_, rfl⟩
      obtain ⟨L, hL⟩ : ∃ L : Nat, L = s[k].toNat % 16 := ⟨_, rfl⟩
      have eH : (s[k].toNat : Int) / 16 = (H : Int) := by rw [hH]; rfl
      try rw [← hL] at eL
      have eL2 : (s[k].toNat : Int) % 16 = (L : Int) := by rw [hL]; rfl
      have eQ : (s[k].toNat : Int).tdiv 16 = (H : Int) := by rw [Int.tdiv_eq_ediv_of_nonneg (by omega)]; exact eH
      have eR : (s[k].toNat : Int).tmod 16 = (L : Int) := by rw [Int.tmod_eq_emod_of_nonneg (by omega)]; exact eL2
      have hH16 : H < 16 := by have := s[k].toNat_lt; omega
      have hL16 : L < 16 := by omega
      rw [← hH, ← hL] at HNX
      have cH := lit_at hH16; have cL := lit_at hL16
      unfold hexLit at cH cL
      have iH : (H : Int) < 16 := by omega
      have eW : IntKind.u8.wrap (H : Int) = (H : Int) := IntWalk.u8_in _ (by omega)
      have eV : IntKind.u8.wrap (L : Int) = (L : Int) := IntWalk.u8_in _ (by omega)
      have iL : (L : Int) < 16 := by omega
      clear hH hL
      go_wp2
      have hlen2 : (hexOf (s.data.toList.take k)).length ≤ 140000 := by rw [hex_len, List.length_take]; omega
      have h63 : (hexOf (s.data.toList.take k)).length + 2 ≤ maxLen := by unfold maxLen; omega
      have hby : ((hexOf (s.data.toList.take k)).length + 2) * 1 ≤ 140737488355328 := by omega
      have hwb := HN.out.size
      have k1 : (0 : Int) ≤ (k : Int) := by omega
      have k2 : (0 : Int) ≤ (H : Int) := by omega
      have k3 : (0 : Int) ≤ (L : Int) := by omega
      go_region_held3 (fun w' => True) (trivial) ((refine step_append_lies _ (by rfl) _ _ _ (by rfl) w.heap.size 5 i0 (.int .u8 0) 1 1 Tryz.underlying42 hi hz0 hz1 hz2 (by rfl) (by omega) o _ _ (by rfl) (HO.out.new (((Mod.refl _ _).drew).alloc _)) ⟨wr.heap.size, 0, none⟩ 2 2 [.int .u8 ((hexLow H).toNat : Int), .int .u8 ((hexLow L).toNat : Int)] (by rfl) (by rfl) (World.news_of_block (heap_alloc_new _ _)) (by intro u hu; simp at hu; rcases hu with rfl | rfl <;> rfl) (by omega) h63 hby (by simp; omega) _ (by rfl) ?_; intro g cap w1 hown hgrow hat hglt))
      all_goals go_wp2
      all_goals exact ⟨⟨k + 1, _, rfl, by simp, by omega, by rw [HNX.out]; exact ownY_of [hexLow H, hexLow L] hown, new_grownY HO.out (Nat.le_refl _) HN.out ⟨hgrow.os, hgrow.tape, hgrow.output, Nat.le_trans (by simp) hgrow.size, fun q hq hx => (hgrow.block q (by simp; omega) hx).trans (Below.heap_alloc _ _ q (by simpa using hq))⟩⟩, by simp [intOf]; omega⟩
    · have hkl : s.data.toList.take k = s.data.toList := List.take_of_length_le (by omega)
      rw [hkl] at HO
      have HT := hid (ownY_text HO.out)
      have hcv := HT.out
      clear hkl
      go_wp2
      go_ret
      exact ⟨rfl, HN.out⟩
set_option maxRecDepth 100000 in
set_option maxHeartbeats 4000000 in
theorem rhex_any (s : ByteArray) (w : World) (hs : s.size ≤ 70000) : Calls Tryz.prog 57 #[.string s] w fun e w' => e = .returned (.string ⟨(hexOf s.data.toList).toArray⟩) ∧ New w w' := by
  have hlen : s.data.toList.length = s.size := by rw [Array.length_toList]; rfl
  obtain ⟨i0, hi, hz0, hz1, hz2⟩ := info_parts info_byte
  go_enter Tryz.func57, Tryz.ntmps57
  go_wp2_with (refine wpList_make_own _ rfl _ _ _ rfl w.heap.size 5 i0 (.int .u8 0) 1 Tryz.underlying42 hi hz0 hz1 .i64 .i64 _ (2 * s.size) rfl rfl ?m1 ?m2 ?m3 ?m4 ?_)
  case m1 => push_cast; omega
  case m2 => rw [hz2]; omega
  case m3 => unfold maxLen; omega
  case m4 => exact Nat.le_refl _
  intro w1 r1 g1
  have HO1 : Hid (OwnY w1 w.heap.size (.slice (some ⟨w.heap.size, 0, none⟩) 0 (2 * s.size)) []) := hid r1
  have HN1 : Hid (New w w1) := hid ⟨g1.os, g1.tape, g1.output, g1.size, fun k hk _ => g1.block k hk (by simp)⟩
  clear r1 g1
  go_wp2
  go_loopw [3, 11] (fun v i wr => ∃ (k : Nat) (o : Value), o = v ∧ i = .int .i64 k ∧ k ≤ s.size ∧ OwnY wr w.heap.size o (hexOf (s.data.toList.take k)) ∧ New w wr) (fun _ i _ => s.size - (intOf i).toNat)
  case atStart => exact ⟨0, _, rfl, rfl, by omega, HO1.out, HN1.out⟩
  case round =>
    clear HO1 HN1
    obtain ⟨k, o, rfl, rfl, hk, ho, hn⟩ := hrel
    have HO := hid ho; have HN := hid hn
    clear ho hn
    by_cases hlt : k < s.size
    · have HNX := hid (hex_next (l := s.data.toList) (k := k) (by omega))
      rw [byteAtL s hlt] at HNX
      have hltI : (k : Int) < (s.size : Int) := by omega
      skip
      obtain ⟨H, hH⟩ : ∃ H : Nat, H = s[k].toNat / 16 := ⟨_, rfl⟩
      obtain ⟨L, hL⟩ : ∃ L : Nat, L = s[k].toNat % 16 := ⟨_, rfl⟩
      have eH : (s[k].toNat : Int) / 16 = (H : Int) := by rw [hH]; rfl
      try rw [← hL] at eL
      have eL2 : (s[k].toNat : Int) % 16 = (L : Int) := by rw [hL]; rfl
      have eQ : (s[k].toNat : Int).tdiv 16 = (H : Int) := by rw [Int.tdiv_eq_ediv_of_nonneg (by omega)]; exact eH
      have eR : (s[k].toNat : Int).tmod 16 = (L : Int) := by rw [Int.tmod_eq_emod_of_nonneg (by omega)]; exact eL2
      have hH16 : H < 16 := by have := s[k].toNat_lt; omega
      have hL16 : L < 16 := by omega
      rw [← hH, ← hL] at HNX
      have cH := lit_at hH16; have cL := lit_at hL16
      unfold hexLit at cH cL
      have iH : (H : Int) < 16 := by omega
      have eW : IntKind.u8.wrap (H : Int) = (H : Int) := IntWalk.u8_in _ (by omega)
      have eV : IntKind.u8.wrap (L : Int) = (L : Int) := IntWalk.u8_in _ (by omega)
      have iL : (L : Int) < 16 := by omega
      clear hH hL
      go_wp2
      have hlen2 : (hexOf (s.data.toList.take k)).length ≤ 140000 := by rw [hex_len, List.length_take]; omega
      have h63 : (hexOf (s.data.toList.take k)).length + 2 ≤ maxLen := by unfold maxLen; omega
      have hby : ((hexOf (s.data.toList.take k)).length + 2) * 1 ≤ 140737488355328 := by omega
      have hwb := HN.out.size
      have k1 : (0 : Int) ≤ (k : Int) := by omega
      have k2 : (0 : Int) ≤ (H : Int) := by omega
      have k3 : (0 : Int) ≤ (L : Int) := by omega
      go_region_held3 (fun w' => True) (trivial) ((refine step_append_lies _ (by rfl) _ _ _ (by rfl) w.heap.size 5 i0 (.int .u8 0) 1 1 Tryz.underlying42 hi hz0 hz1 hz2 (by rfl) (by omega) o _ _ (by rfl) (HO.out.new (((Mod.refl _ _).drew).alloc _)) ⟨wr.heap.size, 0, none⟩ 2 2 [.int .u8 ((hexLow H).toNat : Int), .int .u8 ((hexLow L).toNat : Int)] (by rfl) (by rfl) (World.news_of_block (heap_alloc_new _ _)) (by intro u hu; simp at hu; rcases hu with rfl | rfl <;> rfl) (by omega) h63 hby (by simp; omega) _ (by rfl) ?_; intro g cap w1 hown hgrow hat hglt))
      all_goals go_wp2
      all_goals exact ⟨⟨k + 1, _, rfl, by simp, by omega, by rw [HNX.out]; exact ownY_of [hexLow H, hexLow L] hown, new_grownY HO.out (Nat.le_refl _) HN.out ⟨hgrow.os, hgrow.tape, hgrow.output, Nat.le_trans (by simp) hgrow.size, fun q hq hx => (hgrow.block q (by simp; omega) hx).trans (Below.heap_alloc _ _ q (by simpa using hq))⟩⟩, by simp [intOf]; omega⟩
    · have hkl : s.data.toList.take k = s.data.toList := List.take_of_length_le (by omega)
      rw [hkl] at HO
      have HT := hid (ownY_text HO.out)
      have hcv := HT.out
      clear hkl
      go_wp2
      go_ret
      exact ⟨rfl, HN.out⟩
end Go.Proofs.YtbgmkplpolgebaaGreatDoor

namespace Go.Proofs.YtbgmkplpolgebaaGreatDoor
set_option linter.unusedSimpArgs false
set_option linter.unusedVariables false
open Go.RowKit

theorem idx_any (t : UInt8) (w : World) : Calls Tryz.prog 153 #[.string ⟨#[48, 49, 50, 51, 52, 53, 54, 55, 56, 57, 97, 98, 99, 100, 101, 102]⟩, .int .u8 (t.toNat : Int)] w fun e w' => e = .returned (.int .i64 (nibI t)) ∧ w = w' := by
  refine (Tryz.strings_IndexByte ⟨#[48, 49, 50, 51, 52, 53, 54, 55, 56, 57, 97, 98, 99, 100, 101, 102]⟩ (t.toNat : Int) w).mono ?_
  rintro e w' ⟨rfl, rfl⟩
  have h1 : ((t.toNat : Int).toNat.toUInt8) = t := by simp
  have h2 := index_nib t
  unfold hexLows at h2
  rw [h1]
  exact ⟨by rw [← h2], rfl⟩
theorem ret_hexE {l : List UInt8} {b : ByteArray} {e : Int} (h1 : b = ⟨(unhexB l).toArray⟩) (h2 : e = unhexE l) : Ending.returned (.tuple #[.string b, .int .i64 e]) = .returned (.tuple #[.string ⟨(unhexB l).toArray⟩, .int .i64 (unhexE l)]) := by rw [h1, h2]
set_option maxRecDepth 100000 in
set_option maxHeartbeats 4000000 in
theorem fromHex_any (t : ByteArray) (w : World) (hs : t.size ≤ 65536) : Calls Tryz.prog 167 #[.string t] w fun e w' => e = .returned (.tuple #[.string ⟨(unhexB t.data.toList).toArray⟩, .int .i64 (unhexE t.data.toList)]) ∧ New w w' := by
  have hlen : t.data.toList.length = t.size := by rw [Array.length_toList]; rfl
  obtain ⟨i0, hi, hz0, hz1, hz2⟩ := info_parts info_byte
  have hb1 : ¬ (65536 : Int) < (t.size : Int) := by omega
  by_cases hodd : t.size % 2 = 1
  · have HNO := hid (unhex_no (unhex_odd t.data.toList (by omega)))
    have hbI : ((t.size : Int) % 2 != 0) = true := by rw [bne_iff_ne]; omega
    clear hodd
    go_enter Tryz.func167, Tryz.ntmps167
    go_wp2
    go_ret2
    exact ⟨ret_hexE (by rw [HNO.out.1]) HNO.out.2.symm, Mod.refl _ _⟩
  have hbI : ((t.size : Int) % 2 != 0) = false := by rw [bne_eq_false_iff_eq]; omega
  have HEV := hid (show t.data.toList.length % 2 = 0 by omega)
  have HIX := hid (fun k (h : k < t.size) W => idx_any t[k] W)
  clear hodd
  go_enter Tryz.func167, Tryz.ntmps167
  go_wp2
  go_loopw [4, 16] (fun v i wr => ∃ (k : Nat) (o : Value), o = v ∧ i = .int .i64 k ∧ k ≤ t.size ∧ (∀ c ∈ t.data.toList.take k, (nib c).isSome = true) ∧ OwnY wr w.heap.size o (half (t.data.toList.take k)) ∧ New w wr) (fun _ i _ => t.size - (intOf i).toNat)
  case atStart => exact ⟨0, _, rfl, rfl, by omega, by simp, OwnY.nil _ _, Mod.refl _ _⟩
  case round =>
    obtain ⟨k, o, rfl, rfl, hk, hnb, ho, hn⟩ := hrel
    have HO := hid ho; have HN := hid hn; have HNB := hid hnb
    clear ho hn hnb
    by_cases hlt : k < t.size
    · have hltI : (k : Int) < (t.size : Int) := by omega
      have hix := HIX.out k hlt
      have hmem : t[k] ∈ t.data.toList := by rw [← byteAtL t hlt]; exact List.getElem_mem _
      cases hnb : nib t[k] with
      | none =>
        rw [nibI_none hnb] at hix
        have HX := hid hix
        have HNO := hid (unhex_no (unhex_bad t.data.toList _ hmem hnb))
        clear hix hmem hnb
        go_wp2_with fail
        refine (HX.out _).mono ?_
        rintro e w2 ⟨rfl, rfl⟩
        go_wp2
        go_ret2
        exact ⟨ret_hexE (by rw [HNO.out.1]) HNO.out.2.symm, HN.out⟩
      | some d =>
        rw [nibI_some hnb] at hix
        have HX := hid hix
        have hd16 := nib_lt hnb
        have hdd : nibD t[k] = d := by unfold nibD; rw [hnb]; rfl
        have HNB2 : Hid (∀ c ∈ t.data.toList.take (k + 1), (nib c).isSome = true) := hid (fun c hc => by
          rw [List.take_add_one, List.getElem?_eq_getElem (by omega)] at hc
          rcases List.mem_append.1 hc with q | q
          · exact HNB.out c q
          · simp only [Option.toList, List.mem_singleton] at q
            rw [q, byteAtL t hlt, hnb]
            rfl)
        clear hix hmem hnb
        rcases Nat.mod_two_eq_zero_or_one k with he | he
        · have HNX := hid (half_next0 (l := t.data.toList) (k := k) (by omega) he)
          rw [byteAtL t hlt, hdd] at HNX
          have heI : ((k : Int) % 2 == 0) = true := by rw [beq_iff_eq]; omega
          go_wp2_with fail
          refine (HX.out _).mono ?_
          rintro e w2 ⟨rfl, rfl⟩
          have HV := hid (show (d : Int) * 16 = ((UInt8.ofNat (16 * d)).toNat : Int) by rw [mk_high hd16]; omega)
          have hl1 : (half (t.data.toList.take k)).length ≤ 70000 := by rw [half_len, List.length_take]; omega
          have h63 : (half (t.data.toList.take k)).length + 1 ≤ maxLen := by unfold maxLen; omega
          have hby : ((half (t.data.toList.take k)).length + 1) * 1 ≤ 140737488355328 := by omega
          go_wp2_with (at_builtin; refine wpList_append_own_at _ rfl _ _ 42 rfl w.heap.size 5 i0 (.int .u8 0) 1 1 Tryz.underlying42 hi hz0 hz1 hz2 rfl (by decide) o _ _ rfl (HO.out.new ((Mod.refl _ _).alloc _)) ⟨wr.heap.size, 0, none⟩ 1 1 [.int .u8 ((d : Int) * 16)] rfl rfl (World.news_of_block (heap_alloc_new _ _)) (by intro u hu; simp at hu; subst hu; rfl) h63 hby ?hba ?_)
          case hba => have := HN.out.size; simp; omega
          intro o2 w2 r2 g2 _ l2
          have HO2 : Hid (OwnY w2 w.heap.size o2 (half (t.data.toList.take (k + 1)))) := hid (by
            rw [HNX.out]
            refine ownY_of _ ?_
            rw [HV.out] at r2
            exact r2)
          have HN2 : Hid (New w w2) := hid (new_grownY (HO.out.new ((Mod.refl _ _).alloc _)) (Nat.le_refl _) (HN.out.alloc _) g2)
          clear r2 g2 l2
          go_wp2
          exact ⟨⟨k + 1, _, rfl, by simp, by omega, HNB2.out, HO2.out, HN2.out⟩, by simp [intOf]; omega⟩
        · obtain ⟨p, a, ha16, hpl, hp1, hp2⟩ := half_next1 (l := t.data.toList) (k := k) (by omega) he
          rw [byteAtL t hlt, hdd] at hp2
          have HP2 := hid hp2
          rw [hp1] at HO
          have heI : ((k : Int) % 2 == 0) = false := by rw [beq_eq_false_iff_ne]; omega
          have hq : (k : Int) / 2 = (p.length : Int) := by omega
          have HOR : Hid (bits .or .u8 (16 * (a : Int) % 256) (d : Int) = ((UInt8.ofNat (16 * a + d)).toNat : Int)) := hid (by
            have := or_low ha16 hd16
            rw [mk_high ha16] at this
            rw [Int.emod_eq_of_lt (by omega) (by omega)]
            exact this)
          rcases HO.out.form with ⟨-, q⟩ | ⟨g, cap, rfl, hg0, hg1, hcap, hcm, hcell, hfz⟩
          · simp at q
          have hc1 := hcell p.length (by simp)
          rw [List.getElem_append_right (by simp)] at hc1
          simp only [Nat.sub_self, List.getElem_cons_zero] at hc1
          have hf1 := hfz p.length
          have HPUT := hid (HO.out.put (i := p.length) (by simp) (UInt8.ofNat (16 * a + d)))
          have hset : (p ++ [UInt8.ofNat (16 * a)]).set p.length (UInt8.ofNat (16 * a + d)) = p ++ [UInt8.ofNat (16 * a + d)] := by simp
          rw [hset, ← HP2.out] at HPUT
          have hln : (p ++ [UInt8.ofNat (16 * a)]).length = p.length + 1 := by simp
          rw [hln] at HPUT HO hcap ⊢
          have hG := hid hg0
          obtain ⟨n, hn⟩ : ∃ n, n = p.length := ⟨_, rfl⟩
          rw [← hn] at HPUT HO hcap hq hc1 hf1 ⊢
          clear hpl hn hln
          clear hset hp1 hp2 hcell hfz
          go_wp2_with fail
          refine (HX.out _).mono ?_
          rintro e w2 ⟨rfl, rfl⟩
          go_wp2
          rw [HOR.out]
          exact ⟨⟨k + 1, _, rfl, by simp, by omega, HNB2.out, HPUT.out, new_putY HN.out hG.out⟩, by simp [intOf]; omega⟩
    · have hkl : t.data.toList.take k = t.data.toList := List.take_of_length_le (by omega)
      rw [hkl] at HO HNB
      have HY := hid (unhex_yes (unhex_half _ HEV.out HNB.out))
      have HT := hid (ownY_text HO.out)
      have hcv := HT.out
      clear hkl
      go_wp2
      go_ret2
      exact ⟨ret_hexE (by rw [HY.out.1]) HY.out.2.symm, HN.out⟩
end Go.Proofs.YtbgmkplpolgebaaGreatDoor

namespace Go.Proofs.YtbgmkplpolgebaaGreatDoor
set_option linter.unusedSimpArgs false
set_option linter.unusedVariables false
open Go.RowKit

end Go.Proofs.YtbgmkplpolgebaaGreatDoor

namespace Go.Proofs.YtbgmkplpolgebaaGreatDoor
set_option linter.unusedSimpArgs false
set_option linter.unusedVariables false
open Go.RowKit Go.Shelf

theorem plain_let {c : UInt8} (h : (97 ≤ c.toNat ∧ c.toNat ≤ 122) ∨ (65 ≤ c.toNat ∧ c.toNat ≤ 90) ∨ (48 ≤ c.toNat ∧ c.toNat ≤ 57)) : true = plainE c := by
  unfold plainE
  rcases h with ⟨h1, h2⟩ | ⟨h1, h2⟩ | ⟨h1, h2⟩
  · rw [decide_eq_true h1, decide_eq_true h2]; simp
  · rw [decide_eq_true h1, decide_eq_true h2]; simp
  · rw [decide_eq_true h1, decide_eq_true h2]; simp
theorem plain_mark {c : UInt8} (h1 : ¬ (97 ≤ c.toNat ∧ c.toNat ≤ 122)) (h2 : ¬ (65 ≤ c.toNat ∧ c.toNat ≤ 90)) (h3 : ¬ (48 ≤ c.toNat ∧ c.toNat ≤ 57)) : plainE c = (decide (c = 45) || decide (c = 46) || decide (c = 95) || decide (c = 126)) := by
  unfold plainE
  rw [← Bool.decide_and, decide_eq_false h1, ← Bool.decide_and, decide_eq_false h2, ← Bool.decide_and, decide_eq_false h3]
  simp
theorem marks_at (c : UInt8) : decide (0 ≤ Lib.indexByte [45, 46, 95, 126] c) = (decide (c = 45) || decide (c = 46) || decide (c = 95) || decide (c = 126)) := by
  revert c
  have h : ∀ n : Nat, n < 256 → decide (0 ≤ Lib.indexByte [45, 46, 95, 126] (UInt8.ofNat n)) = (decide (UInt8.ofNat n = 45) || decide (UInt8.ofNat n = 46) || decide (UInt8.ofNat n = 95) || decide (UInt8.ofNat n = 126)) := by decide +kernel
  intro c
  have := h c.toNat c.toNat_lt
  rwa [UInt8.ofNat_toNat] at this
theorem marks_any (c : UInt8) (w : World) : Calls Tryz.prog 153 #[.string ⟨#[45, 46, 95, 126]⟩, .int .u8 (c.toNat : Int)] w fun e w' => e = .returned (.int .i64 (Lib.indexByte [45, 46, 95, 126] c)) ∧ w = w' := by
  refine (Tryz.strings_IndexByte ⟨#[45, 46, 95, 126]⟩ (c.toNat : Int) w).mono ?_
  rintro e w' ⟨rfl, rfl⟩
  have h1 : ((c.toNat : Int).toNat.toUInt8) = c := by simp
  rw [h1]
  exact ⟨rfl, rfl⟩
set_option maxRecDepth 100000 in
set_option maxHeartbeats 4000000 in
theorem mplain_any (c : UInt8) (w : World) : Calls Tryz.prog 112 #[.int .u8 (c.toNat : Int)] w fun e w' => e = .returned (.bool (plainE c)) ∧ w = w' := by
  have hc := c.toNat_lt
  by_cases h1 : (97 : Int) ≤ (c.toNat : Int)
  · by_cases h2 : (c.toNat : Int) ≤ 122
    · have HP := hid (plain_let (c := c) (.inl ⟨by omega, by omega⟩))
      go_enter Tryz.func112, Tryz.ntmps112
      go_wp2_with fail
      go_ret
      exact ⟨ret_bool (HP.out), rfl⟩
    · have h3 : (65 : Int) ≤ (c.toNat : Int) := by omega
      have h4 : ¬ (c.toNat : Int) ≤ 90 := by omega
      have h5 : (48 : Int) ≤ (c.toNat : Int) := by omega
      have h6 : ¬ (c.toNat : Int) ≤ 57 := by omega
      have HM := hid (plain_mark (c := c) (by omega) (by omega) (by omega))
      go_enter Tryz.func112, Tryz.ntmps112
      go_wp2_with fail
      refine (marks_any c _).mono ?_
      rintro e w1 ⟨rfl, rfl⟩
      go_wp2_with fail
      go_ret
      exact ⟨ret_bool (by rw [HM.out, ← marks_at]), rfl⟩
  · by_cases h3 : (65 : Int) ≤ (c.toNat : Int)
    · by_cases h4 : (c.toNat : Int) ≤ 90
      · have HP := hid (plain_let (c := c) (.inr (.inl ⟨by omega, by omega⟩)))
        go_enter Tryz.func112, Tryz.ntmps112
        go_wp2_with fail
        go_ret
        exact ⟨ret_bool (HP.out), rfl⟩
      · have h5 : (48 : Int) ≤ (c.toNat : Int) := by omega
        have h6 : ¬ (c.toNat : Int) ≤ 57 := by omega
        have HM := hid (plain_mark (c := c) (by omega) (by omega) (by omega))
        go_enter Tryz.func112, Tryz.ntmps112
        go_wp2_with fail
        refine (marks_any c _).mono ?_
        rintro e w1 ⟨rfl, rfl⟩
        go_wp2_with fail
        go_ret
        exact ⟨ret_bool (by rw [HM.out, ← marks_at]), rfl⟩
    · by_cases h5 : (48 : Int) ≤ (c.toNat : Int)
      · by_cases h6 : (c.toNat : Int) ≤ 57
        · have HP := hid (plain_let (c := c) (.inr (.inr ⟨by omega, by omega⟩)))
          go_enter Tryz.func112, Tryz.ntmps112
          go_wp2_with fail
          go_ret
          exact ⟨ret_bool (HP.out), rfl⟩
        · have HM := hid (plain_mark (c := c) (by omega) (by omega) (by omega))
          go_enter Tryz.func112, Tryz.ntmps112
          go_wp2_with fail
          refine (marks_any c _).mono ?_
          rintro e w1 ⟨rfl, rfl⟩
          go_wp2_with fail
          go_ret
          exact ⟨ret_bool (by rw [HM.out, ← marks_at]), rfl⟩
      · have HM := hid (plain_mark (c := c) (by omega) (by omega) (by omega))
        go_enter Tryz.func112, Tryz.ntmps112
        go_wp2_with fail
        refine (marks_any c _).mono ?_
        rintro e w1 ⟨rfl, rfl⟩
        go_wp2_with fail
        go_ret
        exact ⟨ret_bool (by rw [HM.out, ← marks_at]), rfl⟩
theorem marks_b (c : UInt8) : (decide (c = 45) || decide (c = 46) || decide (c = 95) || decide (c = 126)) = (((c.toNat : Int) == 45) || ((c.toNat : Int) == 46) || ((c.toNat : Int) == 95) || ((c.toNat : Int) == 126)) := by
  have h : ∀ n : Nat, n < 256 → (decide (UInt8.ofNat n = 45) || decide (UInt8.ofNat n = 46) || decide (UInt8.ofNat n = 95) || decide (UInt8.ofNat n = 126)) = ((((UInt8.ofNat n).toNat : Int) == 45) || (((UInt8.ofNat n).toNat : Int) == 46) || (((UInt8.ofNat n).toNat : Int) == 95) || (((UInt8.ofNat n).toNat : Int) == 126)) := by decide +kernel
  have := h c.toNat c.toNat_lt
  rwa [UInt8.ofNat_toNat] at this
set_option maxRecDepth 100000 in
set_option maxHeartbeats 8000000 in
theorem rplain_any (c : UInt8) (w : World) : Calls Tryz.prog 119 #[.int .u8 (c.toNat : Int)] w fun e w' => e = .returned (.bool (plainE c)) ∧ w = w' := by
  have hc := c.toNat_lt
  by_cases h1 : (97 : Int) ≤ (c.toNat : Int)
  · by_cases h2 : (c.toNat : Int) ≤ 122
    · have HP := hid (plain_let (c := c) (.inl ⟨by omega, by omega⟩))
      go_enter Tryz.func119, Tryz.ntmps119
      go_wp2_with fail
      go_ret
      exact ⟨ret_bool (HP.out), rfl⟩
    · have h3 : (65 : Int) ≤ (c.toNat : Int) := by omega
      have h4 : ¬ (c.toNat : Int) ≤ 90 := by omega
      have h5 : (48 : Int) ≤ (c.toNat : Int) := by omega
      have h6 : ¬ (c.toNat : Int) ≤ 57 := by omega
      have HM := hid (plain_mark (c := c) (by omega) (by omega) (by omega))
      cases m1 : ((c.toNat : Int) == 45) with
      | true =>
        have HF := hid (show plainE c = true by rw [HM.out, marks_b, m1, Bool.true_or, Bool.true_or]; rfl)
        go_enter Tryz.func119, Tryz.ntmps119
        go_wp2_with fail
        go_ret
        exact ⟨ret_bool (by rw [HF.out]), rfl⟩
      | false =>
        cases m2 : ((c.toNat : Int) == 46) with
        | true =>
          have HF := hid (show plainE c = true by rw [HM.out, marks_b, m1, m2, Bool.false_or, Bool.true_or]; rfl)
          go_enter Tryz.func119, Tryz.ntmps119
          go_wp2_with fail
          go_ret
          exact ⟨ret_bool (by rw [HF.out]), rfl⟩
        | false =>
          cases m3 : ((c.toNat : Int) == 95) with
          | true =>
            have HF := hid (show plainE c = true by rw [HM.out, marks_b, m1, m2, m3, Bool.false_or, Bool.false_or]; rfl)
            go_enter Tryz.func119, Tryz.ntmps119
            go_wp2_with fail
            go_ret
            exact ⟨ret_bool (by rw [HF.out]), rfl⟩
          | false =>
            cases m4 : ((c.toNat : Int) == 126) with
            | true =>
              have HF := hid (show plainE c = true by rw [HM.out, marks_b, m1, m2, m3, m4]; rfl)
              go_enter Tryz.func119, Tryz.ntmps119
              go_wp2_with fail
              go_ret
              exact ⟨ret_bool (by rw [HF.out]), rfl⟩
            | false =>
              have HF := hid (show plainE c = false by rw [HM.out, marks_b, m1, m2, m3, m4]; rfl)
              go_enter Tryz.func119, Tryz.ntmps119
              go_wp2_with fail
              go_ret
              exact ⟨ret_bool (by rw [HF.out]), rfl⟩
  · by_cases h3 : (65 : Int) ≤ (c.toNat : Int)
    · by_cases h4 : (c.toNat : Int) ≤ 90
      · have HP := hid (plain_let (c := c) (.inr (.inl ⟨by omega, by omega⟩)))
        go_enter Tryz.func119, Tryz.ntmps119
        go_wp2_with fail
        go_ret
        exact ⟨ret_bool (HP.out), rfl⟩
      · have h5 : (48 : Int) ≤ (c.toNat : Int) := by omega
        have h6 : ¬ (c.toNat : Int) ≤ 57 := by omega
        have HM := hid (plain_mark (c := c) (by omega) (by omega) (by omega))
        cases m1 : ((c.toNat : Int) == 45) with
        | true =>
          have HF := hid (show plainE c = true by rw [HM.out, marks_b, m1, Bool.true_or, Bool.true_or]; rfl)
          go_enter Tryz.func119, Tryz.ntmps119
          go_wp2_with fail
          go_ret
          exact ⟨ret_bool (by rw [HF.out]), rfl⟩
        | false =>
          cases m2 : ((c.toNat : Int) == 46) with
          | true =>
            have HF := hid (show plainE c = true by rw [HM.out, marks_b, m1, m2, Bool.false_or, Bool.true_or]; rfl)
            go_enter Tryz.func119, Tryz.ntmps119
            go_wp2_with fail
            go_ret
            exact ⟨ret_bool (by rw [HF.out]), rfl⟩
          | false =>
            cases m3 : ((c.toNat : Int) == 95) with
            | true =>
              have HF := hid (show plainE c = true by rw [HM.out, marks_b, m1, m2, m3, Bool.false_or, Bool.false_or]; rfl)
              go_enter Tryz.func119, Tryz.ntmps119
              go_wp2_with fail
              go_ret
              exact ⟨ret_bool (by rw [HF.out]), rfl⟩
            | false =>
              cases m4 : ((c.toNat : Int) == 126) with
              | true =>
                have HF := hid (show plainE c = true by rw [HM.out, marks_b, m1, m2, m3, m4]; rfl)
                go_enter Tryz.func119, Tryz.ntmps119
                go_wp2_with fail
                go_ret
                exact ⟨ret_bool (by rw [HF.out]), rfl⟩
              | false =>
                have HF := hid (show plainE c = false by rw [HM.out, marks_b, m1, m2, m3, m4]; rfl)
                go_enter Tryz.func119, Tryz.ntmps119
                go_wp2_with fail
                go_ret
                exact ⟨ret_bool (by rw [HF.out]), rfl⟩
    · by_cases h5 : (48 : Int) ≤ (c.toNat : Int)
      · by_cases h6 : (c.toNat : Int) ≤ 57
        · have HP := hid (plain_let (c := c) (.inr (.inr ⟨by omega, by omega⟩)))
          go_enter Tryz.func119, Tryz.ntmps119
          go_wp2_with fail
          go_ret
          exact ⟨ret_bool (HP.out), rfl⟩
        · have HM := hid (plain_mark (c := c) (by omega) (by omega) (by omega))
          cases m1 : ((c.toNat : Int) == 45) with
          | true =>
            have HF := hid (show plainE c = true by rw [HM.out, marks_b, m1, Bool.true_or, Bool.true_or]; rfl)
            go_enter Tryz.func119, Tryz.ntmps119
            go_wp2_with fail
            go_ret
            exact ⟨ret_bool (by rw [HF.out]), rfl⟩
          | false =>
            cases m2 : ((c.toNat : Int) == 46) with
            | true =>
              have HF := hid (show plainE c = true by rw [HM.out, marks_b, m1, m2, Bool.false_or, Bool.true_or]; rfl)
              go_enter Tryz.func119, Tryz.ntmps119
              go_wp2_with fail
              go_ret
              exact ⟨ret_bool (by rw [HF.out]), rfl⟩
            | false =>
              cases m3 : ((c.toNat : Int) == 95) with
              | true =>
                have HF := hid (show plainE c = true by rw [HM.out, marks_b, m1, m2, m3, Bool.false_or, Bool.false_or]; rfl)
                go_enter Tryz.func119, Tryz.ntmps119
                go_wp2_with fail
                go_ret
                exact ⟨ret_bool (by rw [HF.out]), rfl⟩
              | false =>
                cases m4 : ((c.toNat : Int) == 126) with
                | true =>
                  have HF := hid (show plainE c = true by rw [HM.out, marks_b, m1, m2, m3, m4]; rfl)
                  go_enter Tryz.func119, Tryz.ntmps119
                  go_wp2_with fail
                  go_ret
                  exact ⟨ret_bool (by rw [HF.out]), rfl⟩
                | false =>
                  have HF := hid (show plainE c = false by rw [HM.out, marks_b, m1, m2, m3, m4]; rfl)
                  go_enter Tryz.func119, Tryz.ntmps119
                  go_wp2_with fail
                  go_ret
                  exact ⟨ret_bool (by rw [HF.out]), rfl⟩
      · have HM := hid (plain_mark (c := c) (by omega) (by omega) (by omega))
        cases m1 : ((c.toNat : Int) == 45) with
        | true =>
          have HF := hid (show plainE c = true by rw [HM.out, marks_b, m1, Bool.true_or, Bool.true_or]; rfl)
          go_enter Tryz.func119, Tryz.ntmps119
          go_wp2_with fail
          go_ret
          exact ⟨ret_bool (by rw [HF.out]), rfl⟩
        | false =>
          cases m2 : ((c.toNat : Int) == 46) with
          | true =>
            have HF := hid (show plainE c = true by rw [HM.out, marks_b, m1, m2, Bool.false_or, Bool.true_or]; rfl)
            go_enter Tryz.func119, Tryz.ntmps119
            go_wp2_with fail
            go_ret
            exact ⟨ret_bool (by rw [HF.out]), rfl⟩
          | false =>
            cases m3 : ((c.toNat : Int) == 95) with
            | true =>
              have HF := hid (show plainE c = true by rw [HM.out, marks_b, m1, m2, m3, Bool.false_or, Bool.false_or]; rfl)
              go_enter Tryz.func119, Tryz.ntmps119
              go_wp2_with fail
              go_ret
              exact ⟨ret_bool (by rw [HF.out]), rfl⟩
            | false =>
              cases m4 : ((c.toNat : Int) == 126) with
              | true =>
                have HF := hid (show plainE c = true by rw [HM.out, marks_b, m1, m2, m3, m4]; rfl)
                go_enter Tryz.func119, Tryz.ntmps119
                go_wp2_with fail
                go_ret
                exact ⟨ret_bool (by rw [HF.out]), rfl⟩
              | false =>
                have HF := hid (show plainE c = false by rw [HM.out, marks_b, m1, m2, m3, m4]; rfl)
                go_enter Tryz.func119, Tryz.ntmps119
                go_wp2_with fail
                go_ret
                exact ⟨ret_bool (by rw [HF.out]), rfl⟩
end Go.Proofs.YtbgmkplpolgebaaGreatDoor
