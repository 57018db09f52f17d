/-
  Several texts in one, in their build order. The walks of Failed, Want, Out and Wait (the reference's client of web seeds). Conditions: the client lies as told.
-/
import Derived.Test.YtnhgichiedninaaGreatDoorM32
import Derived.Test.YtnhgichiedninaaGreatDoorM18
namespace Go.Proofs.YtnhgichiedninaaGreatDoor
set_option linter.unusedSimpArgs false
set_option linter.unusedVariables false
open Go.RowKit Go.Shelf

def WebV.failS (v : WebV) (now : Int) (gone : Bool) : WebV := ⟨0, 0, v.failed + 1, now + min (1000 * 2 ^ (v.failed + 1).toNat) 600000, v.bad, v.out || (gone || decide (8 ≤ v.failed + 1))⟩
def RefV.failC (r : RefV) (now : Int) (k : Nat) (v : WebV) (gone : Bool) : RefV := ⟨r.webs.set k (v.failS now gone), r.wanted, r.gave, r.run, now⟩
set_option maxRecDepth 100000 in
set_option maxHeartbeats 8000000 in
theorem rFailed_no (R WB wc DB dc GB gc : Nat) (r : RefV) (now web : Int) (gone : Bool) (w : World) (h : RefAt w R WB wc DB dc GB gc r) (hno : r.tookE now web ≠ 0) :
    Calls Tryz.prog 16 #[.pointer (some ⟨R, 0, none⟩), .int .i64 now, .int .i64 web, .bool gone] w fun e w' => e = .returned (.int .i64 (r.tookE now web)) ∧ New w w' := by
  have HAT := hid (rat_any R WB wc DB dc GB gc r now web w h)
  have hfw := h.few.1; have hcp := h.caps.1
  unfold maxLen at hcp
  obtain ⟨E, hE⟩ : ∃ E, E = r.tookE now web := ⟨_, rfl⟩
  rw [← hE] at hno ⊢
  unfold RefV.tookE at hE
  have hz : r.atE now web = 0 → 0 ≤ web ∧ web < r.webs.length := fun q => (atE_zero q).2.2
  obtain ⟨A, hA⟩ : ∃ A, A = r.atE now web := ⟨_, rfl⟩
  rw [← hA] at HAT hE hz
  clear hA
  by_cases g1 : A = 0
  rotate_left
  · rw [if_pos g1] at hE
    have hb1 : (A != 0) = true := by rw [bne_iff_ne]; exact g1
    have HEQ := hid hE
    clear h hE g1 hno hz
    go_enter Tryz.func16, Tryz.ntmps16
    go_wp2_with fail
    refine HAT.out.mono ?_
    rintro e w1 ⟨rfl, rfl⟩
    go_wp2
    go_ret
    exact ⟨ret_int HEQ.out.symm, Mod.refl _ _⟩
  subst g1
  obtain ⟨z1, z2⟩ := hz rfl
  obtain ⟨k, rfl⟩ := Int.eq_ofNat_of_zero_le z1
  have hk : k < r.webs.length := by omega
  rw [if_neg (by simp), Int.toNat_natCast, List.getElem?_eq_getElem hk] at hE
  simp only at hE
  by_cases g2 : r.webs[k].cnt = 0
  rotate_left
  · rw [if_neg g2] at hE
    exact absurd hE hno
  rw [if_pos g2] at hE
  have HEQ := hid hE
  obtain ⟨g0, gc1, -⟩ := h.seed (List.getElem?_eq_getElem hk)
  rw [g2] at gc1
  have gl := h.webs.lt
  have c0 := h.row.cellv 0 rfl; have cl := h.row.lt
  clear h hE hno hz g2 z1 g0
  go_enter Tryz.func16, Tryz.ntmps16
  go_wp2_with fail
  refine HAT.out.mono ?_
  rintro e w1 ⟨rfl, rfl⟩
  go_wp2
  go_ret
  exact ⟨ret_int HEQ.out.symm, Mod.refl _ _⟩
set_option maxRecDepth 100000 in
set_option maxHeartbeats 8000000 in
theorem rFailed_yes (R WB wc DB dc GB gc : Nat) (r : RefV) (now : Int) (k : Nat) (v : WebV) (gone : Bool) (w : World) (h : RefAt w R WB wc DB dc GB gc r) (hv : r.webs[k]? = some v) (hok : r.tookE now k = 0) (hf : 0 ≤ v.failed ∧ v.failed ≤ 8) :
    Calls Tryz.prog 16 #[.pointer (some ⟨R, 0, none⟩), .int .i64 now, .int .i64 k, .bool gone] w fun e w' => e = .returned (.int .i64 0) ∧ RefAt w' R WB wc DB dc GB gc (r.failC now k v gone) ∧ Mod (RefT R WB DB GB) w w' := by
  have hk := (List.getElem?_eq_some_iff.1 hv).1
  have hA : r.atE now k = 0 ∧ v.cnt ≠ 0 := by
    unfold RefV.tookE at hok
    by_cases hz : r.atE now k = 0
    · rw [if_neg (by rw [hz]; simp), Int.toNat_natCast, hv] at hok
      simp only at hok
      refine ⟨hz, fun q => ?_⟩
      rw [if_pos q] at hok
      cases hok
    · rw [if_pos hz] at hok
      exact absurd hok hz
  obtain ⟨ha0, hc0⟩ := hA
  obtain ⟨t0, t1, -, -⟩ := atE_zero ha0
  have HAT := hid (ha0 ▸ rat_any R WB wc DB dc GB gc r now k w h)
  have HR := hid h; have HV := hid hv
  have hfw := h.few.1; have hcp := h.caps.1; have hnn := h.nums
  unfold maxLen at hcp
  have hcb : (v.cnt == 0) = false := by rw [beq_eq_false_iff_ne]; exact hc0
  obtain ⟨g0, g1, g2, g3, g4, g5⟩ := h.seed hv
  have gl := h.webs.lt
  have gf0 := h.webs.frz (k * 6); have gf1 := h.webs.frz (k * 6 + 1); have gf2 := h.webs.frz (k * 6 + 2); have gf3 := h.webs.frz (k * 6 + 3); have gf5 := h.webs.frz (k * 6 + 5)
  have c0 := h.row.cellv 0 rfl; have c4 := h.row.cellv 4 rfl; have cl := h.row.lt; have cf := h.row.frz 4
  have hap := h.apart
  have hap1 := hap.1
  obtain ⟨F3, hF3⟩ := Int.eq_ofNat_of_zero_le (show 0 ≤ v.failed + 1 by omega)
  obtain ⟨T, hT⟩ : ∃ T, (1000 : Int) * 2 ^ F3 = T := ⟨_, rfl⟩
  have hT9 : 0 ≤ T ∧ T ≤ 512000 := by
    have key : ∀ n : Nat, n ≤ 9 → (0 : Int) ≤ 1000 * 2 ^ n ∧ (1000 : Int) * 2 ^ n ≤ 512000 := by decide
    rw [← hT]; exact key F3 (by omega)
  have HFS := hid (show v.failS now gone = ⟨0, 0, F3, now + T, v.bad, v.out || (gone || decide (8 ≤ (F3 : Int)))⟩ by
    unfold WebV.failS
    rw [hF3, Int.toNat_natCast, hT, show min T 600000 = T by omega])
  have hwF : IntKind.i64.wrap (v.failed + 1) = (F3 : Int) := by rw [hF3, IntKind.wrap_i64]; omega
  have hF8 : (F3 : Int) ≤ 9 := by omega
  have hwT : IntKind.i64.wrap T = T := by rw [IntKind.wrap_i64]; omega
  have hwN : IntKind.i64.wrap (now + T) = now + T := by rw [IntKind.wrap_i64]; omega
  have hm6 : ¬ (600000 : Int) < T := by omega
  clear h hv hok ha0 hc0 hap hF3
  go_enter Tryz.func16, Tryz.ntmps16
  cases ho : v.out with
  | true =>
    rw [ho] at g5
    go_wp2_with fail
    refine HAT.out.mono ?_
    rintro e w1 ⟨rfl, rfl⟩
    go_wp2
    refine name_worldZ (p := fun W => bodyPost _ _ _ _ _ W) (fun W5 hW5 => ?_)
    try rw [show min T 600000 = T by omega] at hW5
    have T1 := HR.out.time (t := now) ⟨by omega, t1⟩
    have V1 := web_put (j := 0) (x := .int .i64 0) (v' := ⟨0, v.cnt, v.failed, v.til, v.bad, v.out⟩) T1.webs HV.out (by omega) (by simp [webCells])
    have V2 := web_put (k := k) (v := ⟨0, v.cnt, v.failed, v.til, v.bad, v.out⟩) (j := 1) (x := .int .i64 0) (v' := ⟨0, 0, v.failed, v.til, v.bad, v.out⟩) V1 (List.getElem?_set_self hk) (by omega) (by simp [webCells])
    rw [List.set_set] at V2
    have V3 := web_put (k := k) (v := ⟨0, 0, v.failed, v.til, v.bad, v.out⟩) (j := 2) (x := .int .i64 F3) (v' := ⟨0, 0, F3, v.til, v.bad, v.out⟩) V2 (List.getElem?_set_self hk) (by omega) (by simp [webCells])
    rw [List.set_set] at V3
    have V4 := web_put (k := k) (v := ⟨0, 0, F3, v.til, v.bad, v.out⟩) (j := 3) (x := .int .i64 (now + T)) (v' := ⟨0, 0, F3, now + T, v.bad, v.out⟩) V3 (List.getElem?_set_self hk) (by omega) (by simp [webCells])
    rw [List.set_set] at V4
    have V5 := web_put (k := k) (v := ⟨0, 0, F3, now + T, v.bad, v.out⟩) (j := 5) (x := .bool true) (v' := v.failS now _) V4 (List.getElem?_set_self hk) (by omega) (by rw [HFS.out]; simp [webCells, ho])
    rw [List.set_set] at V5
    have MW : Mod (fun q => q = WB) (w.setCell ⟨R, 4, none⟩ (.int .i64 now)) W5 := by
      rw [hW5]
      exact Mod.set (S := fun q => q = WB) (Mod.set (S := fun q => q = WB) (Mod.set (S := fun q => q = WB) (Mod.set (S := fun q => q = WB) (Mod.set (S := fun q => q = WB) (Mod.refl _ _) ⟨WB, k * 6, none⟩ _ (.inl rfl)) ⟨WB, k * 6 + 1, none⟩ _ (.inl rfl)) ⟨WB, k * 6 + 2, none⟩ _ (.inl rfl)) ⟨WB, k * 6 + 3, none⟩ _ (.inl rfl)) ⟨WB, k * 6 + 5, none⟩ _ (.inl rfl)
    have T2 := T1.web (w' := W5) (k := k) (v := v.failS now _) (by rw [hW5]; exact V5) MW (by rw [HFS.out]; simp only; omega)
    have M5 : Mod (RefT R WB DB GB) w W5 := (Mod.set (S := RefT R WB DB GB) (Mod.refl _ _) ⟨R, 4, none⟩ _ (.inl (.inl rfl))).trans (MW.mono (fun q _ e => .inr (.inl e)))
    clear hW5 V1 V2 V3 V4 V5 MW
    exact bodyPost_ret (v := .int .i64 0) (by simp [results, Tryz.results16, go_sem]) rfl ⟨rfl, T2, M5⟩
  | false =>
    rw [ho] at g5
    cases gone with
    | true =>
      go_wp2_with fail
      refine HAT.out.mono ?_
      rintro e w1 ⟨rfl, rfl⟩
      go_wp2
      refine name_worldZ (p := fun W => bodyPost _ _ _ _ _ W) (fun W5 hW5 => ?_)
      try rw [show min T 600000 = T by omega] at hW5
      have T1 := HR.out.time (t := now) ⟨by omega, t1⟩
      have V1 := web_put (j := 0) (x := .int .i64 0) (v' := ⟨0, v.cnt, v.failed, v.til, v.bad, v.out⟩) T1.webs HV.out (by omega) (by simp [webCells])
      have V2 := web_put (k := k) (v := ⟨0, v.cnt, v.failed, v.til, v.bad, v.out⟩) (j := 1) (x := .int .i64 0) (v' := ⟨0, 0, v.failed, v.til, v.bad, v.out⟩) V1 (List.getElem?_set_self hk) (by omega) (by simp [webCells])
      rw [List.set_set] at V2
      have V3 := web_put (k := k) (v := ⟨0, 0, v.failed, v.til, v.bad, v.out⟩) (j := 2) (x := .int .i64 F3) (v' := ⟨0, 0, F3, v.til, v.bad, v.out⟩) V2 (List.getElem?_set_self hk) (by omega) (by simp [webCells])
      rw [List.set_set] at V3
      have V4 := web_put (k := k) (v := ⟨0, 0, F3, v.til, v.bad, v.out⟩) (j := 3) (x := .int .i64 (now + T)) (v' := ⟨0, 0, F3, now + T, v.bad, v.out⟩) V3 (List.getElem?_set_self hk) (by omega) (by simp [webCells])
      rw [List.set_set] at V4
      have V5 := web_put (k := k) (v := ⟨0, 0, F3, now + T, v.bad, v.out⟩) (j := 5) (x := .bool true) (v' := v.failS now _) V4 (List.getElem?_set_self hk) (by omega) (by rw [HFS.out]; simp [webCells, ho])
      rw [List.set_set] at V5
      have MW : Mod (fun q => q = WB) (w.setCell ⟨R, 4, none⟩ (.int .i64 now)) W5 := by
        rw [hW5]
        exact Mod.set (S := fun q => q = WB) (Mod.set (S := fun q => q = WB) (Mod.set (S := fun q => q = WB) (Mod.set (S := fun q => q = WB) (Mod.set (S := fun q => q = WB) (Mod.refl _ _) ⟨WB, k * 6, none⟩ _ (.inl rfl)) ⟨WB, k * 6 + 1, none⟩ _ (.inl rfl)) ⟨WB, k * 6 + 2, none⟩ _ (.inl rfl)) ⟨WB, k * 6 + 3, none⟩ _ (.inl rfl)) ⟨WB, k * 6 + 5, none⟩ _ (.inl rfl)
      have T2 := T1.web (w' := W5) (k := k) (v := v.failS now _) (by rw [hW5]; exact V5) MW (by rw [HFS.out]; simp only; omega)
      have M5 : Mod (RefT R WB DB GB) w W5 := (Mod.set (S := RefT R WB DB GB) (Mod.refl _ _) ⟨R, 4, none⟩ _ (.inl (.inl rfl))).trans (MW.mono (fun q _ e => .inr (.inl e)))
      clear hW5 V1 V2 V3 V4 V5 MW
      exact bodyPost_ret (v := .int .i64 0) (by simp [results, Tryz.results16, go_sem]) rfl ⟨rfl, T2, M5⟩
    | false =>
      go_wp2_with fail
      refine HAT.out.mono ?_
      rintro e w1 ⟨rfl, rfl⟩
      go_wp2
      refine name_worldZ (p := fun W => bodyPost _ _ _ _ _ W) (fun W5 hW5 => ?_)
      try rw [show min T 600000 = T by omega] at hW5
      have T1 := HR.out.time (t := now) ⟨by omega, t1⟩
      have V1 := web_put (j := 0) (x := .int .i64 0) (v' := ⟨0, v.cnt, v.failed, v.til, v.bad, v.out⟩) T1.webs HV.out (by omega) (by simp [webCells])
      have V2 := web_put (k := k) (v := ⟨0, v.cnt, v.failed, v.til, v.bad, v.out⟩) (j := 1) (x := .int .i64 0) (v' := ⟨0, 0, v.failed, v.til, v.bad, v.out⟩) V1 (List.getElem?_set_self hk) (by omega) (by simp [webCells])
      rw [List.set_set] at V2
      have V3 := web_put (k := k) (v := ⟨0, 0, v.failed, v.til, v.bad, v.out⟩) (j := 2) (x := .int .i64 F3) (v' := ⟨0, 0, F3, v.til, v.bad, v.out⟩) V2 (List.getElem?_set_self hk) (by omega) (by simp [webCells])
      rw [List.set_set] at V3
      have V4 := web_put (k := k) (v := ⟨0, 0, F3, v.til, v.bad, v.out⟩) (j := 3) (x := .int .i64 (now + T)) (v' := ⟨0, 0, F3, now + T, v.bad, v.out⟩) V3 (List.getElem?_set_self hk) (by omega) (by simp [webCells])
      rw [List.set_set] at V4
      have V5 := web_put (k := k) (v := ⟨0, 0, F3, now + T, v.bad, v.out⟩) (j := 5) (x := .bool (decide (8 ≤ (F3 : Int)))) (v' := v.failS now _) V4 (List.getElem?_set_self hk) (by omega) (by rw [HFS.out]; simp [webCells, ho])
      rw [List.set_set] at V5
      have MW : Mod (fun q => q = WB) (w.setCell ⟨R, 4, none⟩ (.int .i64 now)) W5 := by
        rw [hW5]
        exact Mod.set (S := fun q => q = WB) (Mod.set (S := fun q => q = WB) (Mod.set (S := fun q => q = WB) (Mod.set (S := fun q => q = WB) (Mod.set (S := fun q => q = WB) (Mod.refl _ _) ⟨WB, k * 6, none⟩ _ (.inl rfl)) ⟨WB, k * 6 + 1, none⟩ _ (.inl rfl)) ⟨WB, k * 6 + 2, none⟩ _ (.inl rfl)) ⟨WB, k * 6 + 3, none⟩ _ (.inl rfl)) ⟨WB, k * 6 + 5, none⟩ _ (.inl rfl)
      have T2 := T1.web (w' := W5) (k := k) (v := v.failS now _) (by rw [hW5]; exact V5) MW (by rw [HFS.out]; simp only; omega)
      have M5 : Mod (RefT R WB DB GB) w W5 := (Mod.set (S := RefT R WB DB GB) (Mod.refl _ _) ⟨R, 4, none⟩ _ (.inl (.inl rfl))).trans (MW.mono (fun q _ e => .inr (.inl e)))
      clear hW5 V1 V2 V3 V4 V5 MW
      exact bodyPost_ret (v := .int .i64 0) (by simp [results, Tryz.results16, go_sem]) rfl ⟨rfl, T2, M5⟩
end Go.Proofs.YtnhgichiedninaaGreatDoor
