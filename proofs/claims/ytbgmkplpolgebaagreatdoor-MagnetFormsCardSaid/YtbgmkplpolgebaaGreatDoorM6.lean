/-
  Several texts in one, in their build order. The walks of need, caught, hexed (package magnet). Condition: the text is no longer than the bound. The walk of Escape (the reference). Condition: the text is small.
-/
import Derived.Test.YtbgmkplpolgebaaGreatDoorM5
import Derived.Test.YtbgmkplpolgebaaGreatDoorM4
import Derived.Defers
import Derived.Recover
namespace Go.Proofs.YtbgmkplpolgebaaGreatDoor
set_option linter.unusedSimpArgs false
set_option linter.unusedVariables false
open Go.RowKit Go.Shelf

/-- What a call stops with. -/
def toldM (k : Int) : List PanicEntry := [{ v := .iface 94 (.int .i64 k), recovered := false }]
theorem need_no (k : Int) (w : World) : Calls Tryz.prog 23 #[.bool false, .int .i64 k] w fun e w' => e = .panicked (toldM k) ∧ w = w' := by
  go_enter Tryz.func23, Tryz.ntmps23
  go_wp2
  exact ⟨rfl, rfl, rfl⟩
theorem need_yes (k : Int) (w : World) : Calls Tryz.prog 23 #[.bool true, .int .i64 k] w fun e w' => e = .returned (.tuple #[]) ∧ w = w' := by
  go_enter Tryz.func23, Tryz.ntmps23
  go_wp2
  go_end0
  exact ⟨rfl, rfl⟩
theorem caught_idle (p : Addr) (w : World) :
    CallsD Tryz.prog 21 #[.pointer (some p)] .returning w fun e u' w' => e = .returned (.tuple #[]) ∧ u' = .returning ∧ w' = w := by
  refine callsD_of_wpS Tryz.func21 rfl fun c₀ cs hu => ?_
  apply wpS_seq
  apply wpS_region
  simp [wpOpsS, go_sem, recoverD, hu, Tryz.ntmps21, Exit.thenS]
  apply wpS_seq
  refine wpS_of_wp ?_
  go_wp2
  refine wpS_cond (t := false) (by simp [Act.eval, Array.replicate]) ?_
  simp only [Bool.false_eq_true, if_false]
  refine wpS_of_wp (wp_skip ?_)
  cases c₀
  simp_all [bodyPostS, results, Tryz.results21]
set_option maxRecDepth 100000 in
set_option maxHeartbeats 1000000 in
theorem caught_told (q : Nat) (k : Int) (w : World) (hq : Blk w q #[.int .i64 0] 28) :
    CallsD Tryz.prog 21 #[.pointer (some ⟨q, 0, none⟩)] (.panicking (toldM k)) w fun e u' w' =>
      e = .returned (.tuple #[]) ∧ u' = .panicking [{ v := .iface 94 (.int .i64 k), recovered := true }] ∧ Blk w' q #[.int .i64 k] 28 ∧ Mod (fun j => j = q) w w' := by
  obtain ⟨q1, q2, q3⟩ := hq.one
  have HQ := hid hq
  clear hq
  unfold toldM
  have hta : ∀ (x : Int) (w : World), (Instr.typeAssert (.iface 94 (.int .i64 x)) 20 94 true).run Tryz.prog w = .ok (.tuple #[.int .i64 x, .bool true]) w := fun _ _ => by simp [Instr.typeAssert, run_underlying Tryz.underlying94, Result.andThen]
  refine callsD_of_wpS Tryz.func21 rfl fun c₀ cs hu => ?_
  apply wpS_seq
  apply wpS_region
  simp [wpOpsS, go_sem, recoverD, hu, Tryz.ntmps21, Exit.thenS, show Array.replicate 18 undef = #[undef, undef, undef, undef, undef, undef, undef, undef, undef, undef, undef, undef, undef, undef, undef, undef, undef, undef] from rfl, show Array.replicate 19 undef = #[undef, undef, undef, undef, undef, undef, undef, undef, undef, undef, undef, undef, undef, undef, undef, undef, undef, undef, undef] from rfl]
  apply wpS_seq
  refine wpS_of_wp ?_
  go_wp2
  refine wpS_cond (t := true) (by simp [Act.eval, Array.replicate]) ?_
  simp only [if_true]
  refine wpS_of_wp ?_
  go_wp2
  refine ⟨rfl, .panicking [{ v := .iface 94 (.int .i64 k), recovered := true }], ?_, .tuple #[], by simp [results, Tryz.results21], rfl, rfl, ?_, ?_⟩
  · first | rfl | (simp; done) | (cases c₀; simp_all)
  · apply Blk.row
    · repeat (first | with_reducible exact HQ.out | (with_reducible apply Blk.newAt; (simp; done)) | with_reducible apply Blk.alloc | with_reducible apply Blk.drew | with_reducible apply Blk.drewN | with_reducible apply Blk.set | (with_reducible apply Blk.other; · first | (simp; done) | (simp; omega) | omega) | (with_reducible apply Blk.putObj; · first | (simp; done) | (simp; omega) | omega))
    · rfl
  · repeat (first | with_reducible exact Mod.refl _ _ | with_reducible refine Mod.alloc ?_ _ | with_reducible refine Mod.drew ?_ | with_reducible refine Mod.drewN ?_ _ | (with_reducible refine Mod.set ?_ _ _ (by first | exact .inl rfl | (right; omega) | (right; simp; done) | (right; simp; omega) | (left; omega) | (left; simp; done) | (left; simp; omega))) | (with_reducible refine Mod.putObj ?_ _ _ (by first | exact .inl rfl | (right; omega) | (right; simp; done) | (right; simp; omega) | (left; omega) | (left; simp; done) | (left; simp; omega))))
/-- Digits made small from the left. -/
def lowK (d : List UInt8) (k : Nat) : List UInt8 := (d.take k).map lowC ++ d.drop k
theorem lowK_len (d : List UInt8) (k : Nat) : (lowK d k).length = d.length := by unfold lowK; simp; omega
theorem lowK_pre {d : List UInt8} {k : Nat} (h : k < d.length) : ((d.take k).map lowC).length = k := by rw [List.length_map, List.length_take]; omega
theorem lowK_at {d : List UInt8} {k : Nat} (h : k < d.length) : (lowK d k)[k]'(by rw [lowK_len]; exact h) = d[k] := by
  unfold lowK
  rw [List.getElem_append_right (by rw [lowK_pre h]; exact Nat.le_refl _), List.getElem_drop]
  congr 1
  rw [lowK_pre h]; omega
theorem lowK_next {d : List UInt8} {k : Nat} (h : k < d.length) : (lowK d k).set k (lowC d[k]) = lowK d (k + 1) := by
  unfold lowK
  rw [List.set_append_right _ _ (by rw [lowK_pre h]; exact Nat.le_refl _), lowK_pre h, Nat.sub_self, List.drop_eq_getElem_cons h, List.set_cons_zero, List.take_add_one, List.getElem?_eq_getElem h, List.map_append]
  simp only [Option.toList, List.map_cons, List.map_nil, List.append_assoc, List.cons_append, List.nil_append]
theorem lowK_keep {d : List UInt8} {k : Nat} (h : k < d.length) (hc : lowC d[k] = d[k]) : lowK d k = lowK d (k + 1) := by
  unfold lowK
  rw [List.drop_eq_getElem_cons h, List.take_add_one, List.getElem?_eq_getElem h, List.map_append]
  simp only [Option.toList, List.map_cons, List.map_nil, List.append_assoc, List.cons_append, List.nil_append, hc]
theorem lowK_zero (d : List UInt8) : lowK d 0 = d := by simp [lowK]
theorem lowK_all (d : List UInt8) {k : Nat} (h : d.length ≤ k) : lowK d k = d.map lowC := by
  unfold lowK
  rw [List.take_of_length_le h, List.drop_of_length_le h, List.append_nil]
/-- What hexed answers. -/
def hexR : Option (List UInt8) → Ending
  | some x => .returned (.string ⟨x.toArray⟩)
  | none => .panicked (toldM 2)
set_option maxRecDepth 100000 in
set_option maxHeartbeats 4000000 in
theorem hexed_any (s : ByteArray) (w : World) (hs : s.size ≤ 65536) : Calls Tryz.prog 127 #[.string s] w fun e w' => e = hexR (hexC s.data.toList) ∧ New w w' := by
  have hlen : s.data.toList.length = s.size := by rw [Array.length_toList]; rfl
  have hcw := bytes_of w s
  obtain ⟨cap, hcap⟩ : ∃ cap, cap = grownCap w s.size 0 5 := ⟨_, rfl⟩
  have HBY := hid (bytes_lie w s rfl)
  have HBN := hid (bytes_new w s)
  rw [← hcap] at hcw
  obtain ⟨W, hW⟩ : ∃ W, W = afterBytes w s := ⟨_, rfl⟩
  rw [← hW] at hcw HBY HBN
  clear hW hcap
  obtain ⟨d, hd⟩ : ∃ d, d = s.data.toList := ⟨_, rfl⟩
  rw [← hd] at HBY hlen
  rw [← hd]
  clear hd
  go_enter Tryz.func127, Tryz.ntmps127
  go_wp2_with fail
  go_loopw [12] (fun x wr => ∃ (k : Nat), x = .int .i64 k ∧ k ≤ s.size ∧ ByAt wr w.heap.size (lowK d k) ∧ New w wr) (fun x _ => s.size - (intOf x).toNat)
  case atStart => exact ⟨0, rfl, by omega, by rw [lowK_zero]; exact HBY.out, HBN.out⟩
  case round =>
    clear HBY HBN
    obtain ⟨k, rfl, hk, hb, hn⟩ := hrel
    have HB := hid hb; have HN := hid hn
    by_cases hlt : k < s.size
    · have hltI : (k : Int) < (s.size : Int) := by omega
      have hkd : k < d.length := by omega
      have hc := hb.cell (i := k) (by rw [lowK_len]; exact hkd)
      have hf := hb.frz (i := k) (by rw [lowK_len]; exact hkd)
      rw [lowK_at hkd] at hc
      have hbl := hb.lt
      clear hb hn
      obtain ⟨c, hcc⟩ : ∃ c, c = d[k] := ⟨_, rfl⟩
      have HS := hid (lowK_next hkd)
      have HK := hid (lowK_keep hkd)
      have HSET := hid (fun b => HB.out.set (i := k) (by rw [lowK_len]; exact hkd) b)
      rw [← hcc] at hc HS HK
      have hc255 := c.toNat_lt
      clear hcc
      by_cases h1 : 65 ≤ c.toNat
      · have h1I : (65 : Int) ≤ (c.toNat : Int) := by omega
        by_cases h2 : c.toNat ≤ 70
        · have h2I : (c.toNat : Int) ≤ 70 := by omega
          have el : lowC c = c + 32 := by unfold lowC; rw [if_pos ⟨h1, h2⟩]
          have e32 : ((c + 32 : UInt8).toNat) = c.toNat + 32 := by rw [UInt8.toNat_add]; show (c.toNat + 32) % 256 = _; omega
          have w1 : IntKind.u8.wrap ((c.toNat : Int) + 97) = (c.toNat : Int) + 97 := IntWalk.u8_in _ (by omega)
          have w2 : IntKind.u8.wrap ((c.toNat : Int) + 97 - 65) = ((c + 32 : UInt8).toNat : Int) := by rw [IntWalk.u8_in _ (by omega), e32]; omega
          rw [el] at HS
          have HX := hid (HSET.out (c + 32))
          rw [HS.out] at HX
          clear HSET HS HK el e32
          go_wp2_with fail
          exact ⟨⟨k + 1, by simp, by omega, HX.out, Mod.set HN.out ⟨w.heap.size, k, none⟩ _ (.inr (Nat.le_refl _))⟩, by simp [intOf]; omega⟩
        · have h2I : ¬ (c.toNat : Int) ≤ 70 := by omega
          have el : lowC c = c := by unfold lowC; rw [if_neg (by omega)]
          have HX := hid (HK.out el)
          clear HSET HS HK el
          go_wp2_with fail
          exact ⟨⟨k + 1, by simp, by omega, by rw [← HX.out]; exact HB.out, HN.out⟩, by simp [intOf]; omega⟩
      · have h1I : ¬ (65 : Int) ≤ (c.toNat : Int) := by omega
        have el : lowC c = c := by unfold lowC; rw [if_neg (by omega)]
        have HX := hid (HK.out el)
        clear HSET HS HK el
        go_wp2_with fail
        exact ⟨⟨k + 1, by simp, by omega, by rw [← HX.out]; exact HB.out, HN.out⟩, by simp [intOf]; omega⟩
    · have hltI : ¬ (k : Int) < (s.size : Int) := by omega
      rw [lowK_all d (by omega)] at hb
      have hcv := hb.text s.size cap (by simp [hlen])
      have HFX := hid (fun W => fromHex_any ⟨(d.map lowC).toArray⟩ W (by show (d.map lowC).toArray.size ≤ _; simp; omega))
      rw [show (⟨(d.map lowC).toArray⟩ : ByteArray).data.toList = d.map lowC by simp] at HFX
      obtain ⟨T, hT⟩ : ∃ T : ByteArray, T = ⟨(d.map lowC).toArray⟩ := ⟨_, rfl⟩
      rw [← hT] at hcv HFX
      clear hT hb hn HB
      cases hx : hexC d with
      | none =>
        have HXX := hid hx
        obtain ⟨u1, u2⟩ := unhex_no hx
        rw [u1, u2] at HFX
        clear hx u1 u2
        go_wp2_with fail
        refine (HFX.out _).mono ?_
        rintro e w2 ⟨rfl, n2⟩
        have N2 := hid (HN.out.trans n2)
        clear n2
        go_wp2_with fail
        refine (need_no 2 _).mono ?_
        rintro e w3 ⟨rfl, rfl⟩
        go_wp2
        exact ⟨rfl, by rw [HXX.out]; rfl, N2.out⟩
      | some t =>
        have HXX := hid hx
        obtain ⟨u1, u2⟩ := unhex_yes hx
        rw [u1, u2] at HFX
        obtain ⟨X, hX⟩ : ∃ X : ByteArray, X = ⟨t.toArray⟩ := ⟨_, rfl⟩
        rw [← hX] at HFX
        have HX := hid hX
        clear hx u1 u2 hX
        go_wp2_with fail
        refine (HFX.out _).mono ?_
        rintro e w2 ⟨rfl, n2⟩
        have N2 := hid (HN.out.trans n2)
        clear n2
        go_wp2_with fail
        refine (need_yes 2 _).mono ?_
        rintro e w3 ⟨rfl, rfl⟩
        go_wp2
        go_ret
        exact ⟨by rw [HXX.out, HX.out]; rfl, N2.out⟩
end Go.Proofs.YtbgmkplpolgebaaGreatDoor

namespace Go.Proofs.YtbgmkplpolgebaaGreatDoor
set_option linter.unusedSimpArgs false
set_option linter.unusedVariables false
open Go.RowKit Go.Shelf

def upStr : ByteArray := ⟨#[48, 49, 50, 51, 52, 53, 54, 55, 56, 57, 65, 66, 67, 68, 69, 70]⟩
theorem up_at {n : Nat} (h : n < 16) : (upStr[n]'(show n < 16 from h)) = upD n := by
  have h2 : ∀ n : Fin 16, (upStr[n.1]'(show n.1 < 16 from n.2)) = upD n.1 := by decide +kernel
  exact h2 ⟨n, h⟩
theorem ownY_none {w : World} {b : Nat} (h : Blk w b #[] 5) : OwnY w b (.slice (some ⟨b, 0, none⟩) 0 0) [] :=
  ⟨by simp [byV], .inr ⟨b, 0, #[], rfl, Nat.le_refl _, h, Nat.le_refl _, by simp [maxLen], by simp, by simp [byV]⟩⟩
set_option maxRecDepth 100000 in
set_option maxHeartbeats 8000000 in
theorem rescape_any (s : ByteArray) (w : World) (hs : s.size ≤ 4000000) : Calls Tryz.prog 58 #[.string s] w fun e w' => e = .returned (.string ⟨(eOf s.data.toList).toArray⟩) ∧ New w w' := by
  have HP := hid (fun c w => rplain_any c w)
  have hlen : s.data.toList.length = s.size := by rw [Array.length_toList]; rfl
  obtain ⟨i0, hi, hz0, hz1, hz2⟩ := info_parts info_byte
  have HO1 : Hid (OwnY (w.alloc (.cells #[] 5)) w.heap.size (.slice (some ⟨w.heap.size, 0, none⟩) 0 0) []) := hid (ownY_none (Blk.new w _ _))
  have HN1 : Hid (New w (w.alloc (.cells #[] 5))) := hid ((Mod.refl _ _).alloc _)
  go_enter Tryz.func58, Tryz.ntmps58
  go_wp2_with fail
  go_loopw [3, 8] (fun v i wr => ∃ (k : Nat) (o : Value), o = v ∧ i = .int .i64 k ∧ k ≤ s.size ∧ OwnY wr w.heap.size o (eOf (s.data.toList.take k)) ∧ New w wr) (fun _ i _ => s.size - (intOf i).toNat)
  case atStart => exact ⟨0, _, rfl, rfl, by omega, by rw [List.take_zero]; exact HO1.out, HN1.out⟩
  case round =>
    clear HO1 HN1
    obtain ⟨k, o, rfl, rfl, hk, ho, hn⟩ := hrel
    have HO := hid ho; have HN := hid hn
    have hsz := hn.size
    clear ho hn
    by_cases hlt : k < s.size
    · have HNX := hid (eOf_next (l := s.data.toList) (k := k) (by omega))
      rw [byteAtE s hlt] at HNX
      have hltI : (k : Int) < (s.size : Int) := by omega
      have hacc := eOf_len (s.data.toList.take k)
      rw [List.length_take] at hacc
      obtain ⟨acc, hac⟩ : ∃ acc, acc = eOf (s.data.toList.take k) := ⟨_, rfl⟩
      rw [← hac] at HNX HO hacc
      clear hac
      cases hp : plainE s[k] with
      | true =>
        have HPC := hid (fun w => HP.out s[k] w)
        rw [hp] at HPC
        rw [eB, hp, if_pos rfl] at HNX
        clear hp
        go_wp2_with fail
        refine (HPC.out _).mono ?_
        rintro e w3 ⟨rfl, rfl⟩
        go_wp2_with (at_builtin; refine wpList_append_own_at _ rfl _ _ 42 rfl w.heap.size 5 i0 _ 1 1 Tryz.underlying42 hi hz0 hz1 hz2 rfl (by decide) _ acc.length (byV acc) rfl ?ow ⟨wr.heap.size, 0, none⟩ 1 1 [.int .u8 (s[k].toNat : Int)] rfl rfl ?hn ?h1 ?h63 ?hby ?hba ?_)
        case ow => exact HO.out.new ((Mod.refl _ _).alloc _)
        case hn =>
          intro j u hj
          rw [show (⟨wr.heap.size, 0, none⟩ : Addr).add j = ⟨wr.heap.size, 0 + j, none⟩ by unfold Addr.add; split <;> simp_all]
          match j, hj with
          | 0, hj => simp at hj; subst hj; exact (Blk.newAt (by simp)).cellv 0 rfl
        case h1 => intro u hu; simp at hu; subst hu; rfl
        case h63 => unfold maxLen; omega
        case hby => omega
        case hba => simp; omega
        intro o' w' r' g' _ _
        have O' := hid (ownY_of (l := acc) [s[k]] r')
        have N' := hid (new_grownY (HO.out.new ((Mod.refl _ _).alloc _)) (Nat.le_refl _) (HN.out.alloc _) g')
        clear r' g'
        go_wp2_with fail
        exact ⟨⟨k + 1, _, rfl, by simp, by omega, by rw [HNX.out]; exact O'.out, N'.out⟩, by simp [intOf]; omega⟩
      | false =>
        have HPC := hid (fun w => HP.out s[k] w)
        rw [hp] at HPC
        rw [eB, hp, if_neg (by decide)] at HNX
        clear hp
        obtain ⟨H, hH⟩ : ∃ H : Nat, H = s[k].toNat / 16 := ⟨_, rfl⟩
        obtain ⟨L, hL⟩ : ∃ L : Nat, L = s[k].toNat % 16 := ⟨_, rfl⟩
        have eQ : (s[k].toNat : Int).tdiv 16 = (H : Int) := by rw [Int.tdiv_eq_ediv_of_nonneg (by omega), hH]; rfl
        have eR : (s[k].toNat : Int).tmod 16 = (L : Int) := by rw [Int.tmod_eq_emod_of_nonneg (by omega), hL]; rfl
        have hH16 : H < 16 := by have := s[k].toNat_lt; omega
        have hL16 : L < 16 := by omega
        rw [← hH, ← hL] at HNX
        have cH := up_at hH16; have cL := up_at hL16
        unfold upStr at cH cL
        have iH : (H : Int) < 16 := by omega
        have eW : IntKind.u8.wrap (H : Int) = (H : Int) := IntWalk.u8_in _ (by omega)
        have eV : IntKind.u8.wrap (L : Int) = (L : Int) := IntWalk.u8_in _ (by omega)
        have iL : (L : Int) < 16 := by omega
        have h63 : acc.length + 3 ≤ maxLen := by unfold maxLen; omega
        have hby : (acc.length + 3) * 1 ≤ 140737488355328 := by omega
        have k1 : (0 : Int) ≤ (k : Int) := by omega
        have k2 : (0 : Int) ≤ (H : Int) := by omega
        have k3 : (0 : Int) ≤ (L : Int) := by omega
        clear hH hL
        go_wp2_with fail
        refine (HPC.out _).mono ?_
        rintro e w3 ⟨rfl, rfl⟩
        go_wp2_with fail
        go_region_held3 (fun w' => True) (trivial) ((refine step_append_lies _ (by rfl) _ _ _ (by rfl) w.heap.size 5 i0 (.int .u8 0) 1 1 Tryz.underlying42 hi hz0 hz1 hz2 (by rfl) (by omega) o _ _ (by rfl) (HO.out.new (((Mod.refl _ _).drew).alloc _)) ⟨wr.heap.size, 0, none⟩ 3 3 [.int .u8 37, .int .u8 ((upD H).toNat : Int), .int .u8 ((upD L).toNat : Int)] (by rfl) (by rfl) (World.news_of_block (heap_alloc_new _ _)) (by intro u hu; simp at hu; rcases hu with rfl | rfl | rfl <;> rfl) (by omega) h63 hby (by simp; omega) _ (by rfl) ?_; intro g cap w1 hown hgrow hat hglt))
        all_goals go_wp2
        all_goals exact ⟨⟨k + 1, _, rfl, by simp, by omega, by rw [HNX.out]; exact ownY_of [37, upD H, upD L] hown, new_grownY HO.out (Nat.le_refl _) HN.out ⟨hgrow.os, hgrow.tape, hgrow.output, Nat.le_trans (by simp) hgrow.size, fun q hq hx => (hgrow.block q (by simp; omega) hx).trans (Below.heap_alloc _ _ q (by simpa using hq))⟩⟩, by simp [intOf]; omega⟩
    · have hkl : s.data.toList.take k = s.data.toList := List.take_of_length_le (by omega)
      rw [hkl] at HO
      have HT := hid (ownY_text HO.out)
      have hcv := HT.out
      clear hkl
      go_wp2
      go_ret
      exact ⟨rfl, HN.out⟩
end Go.Proofs.YtbgmkplpolgebaaGreatDoor
