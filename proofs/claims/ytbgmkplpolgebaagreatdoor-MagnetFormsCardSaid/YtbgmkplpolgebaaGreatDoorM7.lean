/-
  Several texts in one, in their build order. The walks of loose and Unescape (the reference). Condition: the text is small. The walk of unescaped (package magnet). Condition: the text is small. The walks of Unescape and of its deferred closure (package magnet). No condition on the text.
-/
import Derived.Test.YtbgmkplpolgebaaGreatDoorM6
namespace Go.Proofs.YtbgmkplpolgebaaGreatDoor
set_option linter.unusedSimpArgs false
set_option linter.unusedVariables false
open Go.RowKit Go.Shelf

theorem drop_at (s : ByteArray) {k : Nat} (h : k < s.size) : s.data.toList.drop k = s[k] :: s.data.toList.drop (k + 1) := by
  rw [List.drop_eq_getElem_cons (by rw [Array.length_toList]; exact h)]
  rfl
end Go.Proofs.YtbgmkplpolgebaaGreatDoor

namespace Go.Proofs.YtbgmkplpolgebaaGreatDoor
set_option linter.unusedSimpArgs false
set_option linter.unusedVariables false
open Go.RowKit Go.Shelf

theorem two_cut (s : ByteArray) {k : Nat} (h : k + 2 < s.size) : (s.extract (k + 1) (k + 3)).data.toList = [s[k + 1], s[k + 2]] := by
  rw [ByteArray.data_extract, Array.toList_extract, List.extract_eq_take_drop]
  rw [List.drop_eq_getElem_cons (by rw [Array.length_toList]; show k + 1 < s.size; omega), List.drop_eq_getElem_cons (by rw [Array.length_toList]; show k + 1 + 1 < s.size; omega), show k + 3 - (k + 1) = 2 by omega]
  rfl
set_option maxRecDepth 100000 in
set_option maxHeartbeats 4000000 in
theorem unescaped_any (s : ByteArray) (w : World) (hs : s.size ≤ 4000000) : Calls Tryz.prog 72 #[.string s] w fun e w' => e = hexR (loose s.data.toList) ∧ New w w' := by
  have hlen : s.data.toList.length = s.size := by rw [Array.length_toList]; rfl
  obtain ⟨X, hX⟩ : ∃ X, X = loose s.data.toList := ⟨_, rfl⟩
  rw [← hX]
  have HFR := hid (Bld.fresh w)
  have HN0 : Hid (New w (w.alloc (.cells #[.pointer none, .slice none 0 0] 138))) := hid ((Mod.refl _ _).alloc _)
  have HL0 : Hid ((loose (s.data.toList.drop 0)).map (([] : List UInt8) ++ ·) = X) := hid (by rw [List.drop_zero, hX]; cases loose s.data.toList <;> rfl)
  clear hX
  go_enter Tryz.func72, Tryz.ntmps72
  go_wp2_with fail
  go_loopw [4] (fun x wr => ∃ (k : Nat) (acc : List UInt8), x = .int .i64 k ∧ k ≤ s.size ∧ acc.length ≤ k ∧ Bld wr w.heap.size acc ∧ (loose (s.data.toList.drop k)).map (acc ++ ·) = X ∧ New w wr) (fun x _ => s.size - (intOf x).toNat)
  case atStart => exact ⟨0, [], rfl, by omega, by simp, HFR.out, HL0.out, HN0.out⟩
  case round =>
    clear HFR HN0 HL0
    obtain ⟨k, acc, rfl, hk, hac, hbl, hl, hn⟩ := hrel
    have HBL := hid hbl; have HN := hid hn; have HL := hid hl
    have hbw := hbl.lt
    clear hbl hn hl
    by_cases hlt : k < s.size
    · have hltI : (k : Int) < (s.size : Int) := by omega
      have HD := hid (drop_at s hlt)
      rw [HD.out] at HL
      have hk1 : IntKind.i64.wrap ((k : Int) + 1) = (k : Int) + 1 := by rw [IntKind.wrap_i64]; omega
      have hk2 : IntKind.i64.wrap ((k : Int) + 2) = (k : Int) + 2 := by rw [IntKind.wrap_i64]; omega
      by_cases hc : s[k] = 37
      · have e0 : ((s[k].toNat : Int) != 37) = false := by rw [hc]; rfl
        rw [hc] at HL
        clear hc
        by_cases h2 : s.size ≤ k + 2
        · have HXN := hid (loose_short HL.out (by rw [List.length_drop, hlen]; omega))
          have hge : decide ((k : Int) + 2 < (s.size : Int)) = false := decide_eq_false (by omega)
          have hge2 : ¬ (k : Int) + 2 < (s.size : Int) := by omega
          go_wp2_with fail
          refine (need_no 2 _).mono ?_
          rintro e w3 ⟨rfl, rfl⟩
          go_wp2
          exact ⟨rfl, by rw [HXN.out]; rfl, HN.out⟩
        · have hge : decide ((k : Int) + 2 < (s.size : Int)) = true := decide_eq_true (by omega)
          have hge2 : (k : Int) + 2 < (s.size : Int) := by omega
          have HD1 := hid (drop_at s (show k + 1 < s.size by omega)); have HD2 := hid (drop_at s (show k + 2 < s.size by omega))
          rw [HD1.out, HD2.out] at HL
          have hk3 : IntKind.i64.wrap ((k : Int) + 3) = (k : Int) + 3 := by rw [IntKind.wrap_i64]; omega
          have hk4 : IntKind.i64.wrap ((k : Int) + 2 + 1) = (k : Int) + 2 + 1 := by rw [IntKind.wrap_i64]; omega
          have pa : (0 : Int) ≤ (k : Int) + 1 := by omega
          have pb : (k : Int) + 1 ≤ (k : Int) + 3 := by omega
          have pc : (k : Int) + 3 ≤ (s.size : Int) := by omega
          have na : ((k : Int) + 1).toNat = k + 1 := by omega
          have nb : ((k : Int) + 3).toNat = k + 3 := by omega
          have HHX := hid (fun W => hexed_any (s.extract (k + 1) (k + 3)) W (by rw [ByteArray.size_extract]; omega))
          rw [two_cut s (by omega)] at HHX
          obtain ⟨CB, hCB⟩ : ∃ CB, CB = s.extract (k + 1) (k + 3) := ⟨_, rfl⟩
          cases hx : hexC [s[k + 1], s[k + 2]] with
          | none =>
            have HXN := hid (loose_bad HL.out hx)
            rw [hx, hexR] at HHX
            clear hx
            go_wp2_with fail
            refine (need_yes 2 _).mono ?_
            rintro e w3 ⟨rfl, rfl⟩
            go_wp2_with fail
            refine (HHX.out _).mono ?_
            rintro e w4 ⟨rfl, n4⟩
            have N4 := hid (HN.out.trans n4)
            clear n4
            go_wp2
            exact ⟨rfl, by rw [HXN.out]; rfl, N4.out⟩
          | some x =>
            have HST := hid (loose_step3 HL.out hx)
            have hxl : x.length = 1 := by
              rw [hexC_two] at hx
              split at hx
              · cases hx; rfl
              · cases hx
            rw [hx, hexR] at HHX
            have HWR := hid (fun W (q : Bld W w.heap.size acc) => write_any w.heap.size acc ⟨x.toArray⟩ W q (by rw [size_list]; omega))
            rw [show (⟨x.toArray⟩ : ByteArray).data.toList = x by simp] at HWR
            clear hx
            go_wp2_with fail
            refine (need_yes 2 _).mono ?_
            rintro e w3 ⟨rfl, rfl⟩
            go_wp2_with fail
            refine (HHX.out _).mono ?_
            rintro e w4 ⟨rfl, n4⟩
            have B4 := hid (HBL.out.new n4)
            have N4 := hid (HN.out.trans n4)
            clear n4
            go_wp2_with fail
            refine (HWR.out _ B4.out).mono ?_
            rintro e w5 ⟨rfl, b5, n5⟩
            have B5 := hid b5
            have N5 := hid (Wrote.new N4.out n5 (Nat.le_refl _))
            clear b5 n5
            go_wp2_with fail
            exact ⟨⟨k + 3, acc ++ x, by simp; omega, by omega, by simp; omega, B5.out, HST.out, N5.out⟩, by simp [intOf]; omega⟩
      · have e0 : ((s[k].toNat : Int) != 37) = true := by
          rw [bne_iff_ne]
          intro q
          exact hc (UInt8.toNat_inj.1 (by show s[k].toNat = 37; omega))
        have HST := hid (loose_step HL.out hc)
        clear hc
        go_wp2_with fail
        refine (byte_any w.heap.size acc s[k] _ HBL.out (by omega)).mono ?_
        rintro e w4 ⟨rfl, b4, n4⟩
        have B4 := hid b4
        have N4 := hid (Wrote.new HN.out n4 (Nat.le_refl _))
        clear b4 n4
        go_wp2_with fail
        exact ⟨⟨k + 1, acc ++ [s[k]], by simp, by omega, by simp; omega, B4.out, HST.out, N4.out⟩, by simp [intOf]; omega⟩
    · have hltI : ¬ (k : Int) < (s.size : Int) := by omega
      have HXS : Hid (X = some acc) := hid (by rw [← HL.out, List.drop_of_length_le (by omega), loose_nil]; simp)
      go_wp2_with fail
      refine (string_any w.heap.size acc _ HBL.out).mono ?_
      rintro e w4 ⟨rfl, b4, n4⟩
      have N4 := hid (Wrote.new HN.out n4 (Nat.le_refl _))
      clear b4 n4
      go_wp2
      go_ret
      exact ⟨by rw [HXS.out]; rfl, N4.out⟩
end Go.Proofs.YtbgmkplpolgebaaGreatDoor

namespace Go.Proofs.YtbgmkplpolgebaaGreatDoor
set_option linter.unusedSimpArgs false
set_option linter.unusedVariables false
open Go.RowKit Go.Shelf

end Go.Proofs.YtbgmkplpolgebaaGreatDoor
