/-
  The walks of plain (package magnet and its reference) and of the reference's nibble. No condition.
-/
import Derived.Test.YtecjdppkpfpniaaGreatDoorEsM
import Derived.Test.YtecjdppkpfpniaaGreatDoorHr
import Derived.Test.YtecjdppkpfpniaaGreatDoorShelf
namespace Go.Proofs.YtecjdppkpfpniaaGreatDoor
set_option linter.unusedSimpArgs false
set_option linter.unusedVariables false
open Go.RowKit Go.Shelf

theorem plain_let {c : UInt8} (h : (97 ≤ c.toNat ∧ c.toNat ≤ 122) ∨ (65 ≤ c.toNat ∧ c.toNat ≤ 90) ∨ (48 ≤ c.toNat ∧ c.toNat ≤ 57)) : true = plainE c := by
  unfold plainE
  rcases h with ⟨h1, h2⟩ | ⟨h1, h2⟩ | ⟨h1, h2⟩
  · rw [decide_eq_true h1, decide_eq_true h2]; simp
  · rw [decide_eq_true h1, decide_eq_true h2]; simp
  · rw [decide_eq_true h1, decide_eq_true h2]; simp
theorem plain_mark {c : UInt8} (h1 : ¬ (97 ≤ c.toNat ∧ c.toNat ≤ 122)) (h2 : ¬ (65 ≤ c.toNat ∧ c.toNat ≤ 90)) (h3 : ¬ (48 ≤ c.toNat ∧ c.toNat ≤ 57)) : plainE c = (decide (c = 45) || decide (c = 46) || decide (c = 95) || decide (c = 126)) := by
  unfold plainE
  rw [← Bool.decide_and, decide_eq_false h1, ← Bool.decide_and, decide_eq_false h2, ← Bool.decide_and, decide_eq_false h3]
  simp
theorem marks_at (c : UInt8) : decide (0 ≤ Lib.indexByte [45, 46, 95, 126] c) = (decide (c = 45) || decide (c = 46) || decide (c = 95) || decide (c = 126)) := by
  revert c
  have h : ∀ n : Nat, n < 256 → decide (0 ≤ Lib.indexByte [45, 46, 95, 126] (UInt8.ofNat n)) = (decide (UInt8.ofNat n = 45) || decide (UInt8.ofNat n = 46) || decide (UInt8.ofNat n = 95) || decide (UInt8.ofNat n = 126)) := by decide +kernel
  intro c
  have := h c.toNat c.toNat_lt
  rwa [UInt8.ofNat_toNat] at this
theorem marks_any (c : UInt8) (w : World) : Calls Tryz.prog 146 #[.string ⟨#[45, 46, 95, 126]⟩, .int .u8 (c.toNat : Int)] w fun e w' => e = .returned (.int .i64 (Lib.indexByte [45, 46, 95, 126] c)) ∧ w = w' := by
  refine (Tryz.strings_IndexByte ⟨#[45, 46, 95, 126]⟩ (c.toNat : Int) w).mono ?_
  rintro e w' ⟨rfl, rfl⟩
  have h1 : ((c.toNat : Int).toNat.toUInt8) = c := by simp
  rw [h1]
  exact ⟨rfl, rfl⟩
set_option maxRecDepth 100000 in
set_option maxHeartbeats 4000000 in
theorem mplain_any (c : UInt8) (w : World) : Calls Tryz.prog 69 #[.int .u8 (c.toNat : Int)] w fun e w' => e = .returned (.bool (plainE c)) ∧ w = w' := by
  have hc := c.toNat_lt
  by_cases h1 : (97 : Int) ≤ (c.toNat : Int)
  · by_cases h2 : (c.toNat : Int) ≤ 122
    · have HP := hid (plain_let (c := c) (.inl ⟨by omega, by omega⟩))
      go_enter Tryz.func69, Tryz.ntmps69
      go_wp2_with fail
      go_ret
      exact ⟨ret_bool (HP.out), rfl⟩
    · have h3 : (65 : Int) ≤ (c.toNat : Int) := by omega
      have h4 : ¬ (c.toNat : Int) ≤ 90 := by omega
      have h5 : (48 : Int) ≤ (c.toNat : Int) := by omega
      have h6 : ¬ (c.toNat : Int) ≤ 57 := by omega
      have HM := hid (plain_mark (c := c) (by omega) (by omega) (by omega))
      go_enter Tryz.func69, Tryz.ntmps69
      go_wp2_with fail
      refine (marks_any c _).mono ?_
      rintro e w1 ⟨rfl, rfl⟩
      go_wp2_with fail
      go_ret
      exact ⟨ret_bool (by rw [HM.out, ← marks_at]), rfl⟩
  · by_cases h3 : (65 : Int) ≤ (c.toNat : Int)
    · by_cases h4 : (c.toNat : Int) ≤ 90
      · have HP := hid (plain_let (c := c) (.inr (.inl ⟨by omega, by omega⟩)))
        go_enter Tryz.func69, Tryz.ntmps69
        go_wp2_with fail
        go_ret
        exact ⟨ret_bool (HP.out), rfl⟩
      · have h5 : (48 : Int) ≤ (c.toNat : Int) := by omega
        have h6 : ¬ (c.toNat : Int) ≤ 57 := by omega
        have HM := hid (plain_mark (c := c) (by omega) (by omega) (by omega))
        go_enter Tryz.func69, Tryz.ntmps69
        go_wp2_with fail
        refine (marks_any c _).mono ?_
        rintro e w1 ⟨rfl, rfl⟩
        go_wp2_with fail
        go_ret
        exact ⟨ret_bool (by rw [HM.out, ← marks_at]), rfl⟩
    · by_cases h5 : (48 : Int) ≤ (c.toNat : Int)
      · by_cases h6 : (c.toNat : Int) ≤ 57
        · have HP := hid (plain_let (c := c) (.inr (.inr ⟨by omega, by omega⟩)))
          go_enter Tryz.func69, Tryz.ntmps69
          go_wp2_with fail
          go_ret
          exact ⟨ret_bool (HP.out), rfl⟩
        · have HM := hid (plain_mark (c := c) (by omega) (by omega) (by omega))
          go_enter Tryz.func69, Tryz.ntmps69
          go_wp2_with fail
          refine (marks_any c _).mono ?_
          rintro e w1 ⟨rfl, rfl⟩
          go_wp2_with fail
          go_ret
          exact ⟨ret_bool (by rw [HM.out, ← marks_at]), rfl⟩
      · have HM := hid (plain_mark (c := c) (by omega) (by omega) (by omega))
        go_enter Tryz.func69, Tryz.ntmps69
        go_wp2_with fail
        refine (marks_any c _).mono ?_
        rintro e w1 ⟨rfl, rfl⟩
        go_wp2_with fail
        go_ret
        exact ⟨ret_bool (by rw [HM.out, ← marks_at]), rfl⟩
theorem marks_b (c : UInt8) : (decide (c = 45) || decide (c = 46) || decide (c = 95) || decide (c = 126)) = (((c.toNat : Int) == 45) || ((c.toNat : Int) == 46) || ((c.toNat : Int) == 95) || ((c.toNat : Int) == 126)) := by
  have h : ∀ n : Nat, n < 256 → (decide (UInt8.ofNat n = 45) || decide (UInt8.ofNat n = 46) || decide (UInt8.ofNat n = 95) || decide (UInt8.ofNat n = 126)) = ((((UInt8.ofNat n).toNat : Int) == 45) || (((UInt8.ofNat n).toNat : Int) == 46) || (((UInt8.ofNat n).toNat : Int) == 95) || (((UInt8.ofNat n).toNat : Int) == 126)) := by decide +kernel
  have := h c.toNat c.toNat_lt
  rwa [UInt8.ofNat_toNat] at this
set_option maxRecDepth 100000 in
set_option maxHeartbeats 8000000 in
theorem rplain_any (c : UInt8) (w : World) : Calls Tryz.prog 75 #[.int .u8 (c.toNat : Int)] w fun e w' => e = .returned (.bool (plainE c)) ∧ w = w' := by
  have hc := c.toNat_lt
  by_cases h1 : (97 : Int) ≤ (c.toNat : Int)
  · by_cases h2 : (c.toNat : Int) ≤ 122
    · have HP := hid (plain_let (c := c) (.inl ⟨by omega, by omega⟩))
      go_enter Tryz.func75, Tryz.ntmps75
      go_wp2_with fail
      go_ret
      exact ⟨ret_bool (HP.out), rfl⟩
    · have h3 : (65 : Int) ≤ (c.toNat : Int) := by omega
      have h4 : ¬ (c.toNat : Int) ≤ 90 := by omega
      have h5 : (48 : Int) ≤ (c.toNat : Int) := by omega
      have h6 : ¬ (c.toNat : Int) ≤ 57 := by omega
      have HM := hid (plain_mark (c := c) (by omega) (by omega) (by omega))
      cases m1 : ((c.toNat : Int) == 45) with
      | true =>
        have HF := hid (show plainE c = true by rw [HM.out, marks_b, m1, Bool.true_or, Bool.true_or]; rfl)
        go_enter Tryz.func75, Tryz.ntmps75
        go_wp2_with fail
        go_ret
        exact ⟨ret_bool (by rw [HF.out]), rfl⟩
      | false =>
        cases m2 : ((c.toNat : Int) == 46) with
        | true =>
          have HF := hid (show plainE c = true by rw [HM.out, marks_b, m1, m2, Bool.false_or, Bool.true_or]; rfl)
          go_enter Tryz.func75, Tryz.ntmps75
          go_wp2_with fail
          go_ret
          exact ⟨ret_bool (by rw [HF.out]), rfl⟩
        | false =>
          cases m3 : ((c.toNat : Int) == 95) with
          | true =>
            have HF := hid (show plainE c = true by rw [HM.out, marks_b, m1, m2, m3, Bool.false_or, Bool.false_or]; rfl)
            go_enter Tryz.func75, Tryz.ntmps75
            go_wp2_with fail
            go_ret
            exact ⟨ret_bool (by rw [HF.out]), rfl⟩
          | false =>
            cases m4 : ((c.toNat : Int) == 126) with
            | true =>
              have HF := hid (show plainE c = true by rw [HM.out, marks_b, m1, m2, m3, m4]; rfl)
              go_enter Tryz.func75, Tryz.ntmps75
              go_wp2_with fail
              go_ret
              exact ⟨ret_bool (by rw [HF.out]), rfl⟩
            | false =>
              have HF := hid (show plainE c = false by rw [HM.out, marks_b, m1, m2, m3, m4]; rfl)
              go_enter Tryz.func75, Tryz.ntmps75
              go_wp2_with fail
              go_ret
              exact ⟨ret_bool (by rw [HF.out]), rfl⟩
  · by_cases h3 : (65 : Int) ≤ (c.toNat : Int)
    · by_cases h4 : (c.toNat : Int) ≤ 90
      · have HP := hid (plain_let (c := c) (.inr (.inl ⟨by omega, by omega⟩)))
        go_enter Tryz.func75, Tryz.ntmps75
        go_wp2_with fail
        go_ret
        exact ⟨ret_bool (HP.out), rfl⟩
      · have h5 : (48 : Int) ≤ (c.toNat : Int) := by omega
        have h6 : ¬ (c.toNat : Int) ≤ 57 := by omega
        have HM := hid (plain_mark (c := c) (by omega) (by omega) (by omega))
        cases m1 : ((c.toNat : Int) == 45) with
        | true =>
          have HF := hid (show plainE c = true by rw [HM.out, marks_b, m1, Bool.true_or, Bool.true_or]; rfl)
          go_enter Tryz.func75, Tryz.ntmps75
          go_wp2_with fail
          go_ret
          exact ⟨ret_bool (by rw [HF.out]), rfl⟩
        | false =>
          cases m2 : ((c.toNat : Int) == 46) with
          | true =>
            have HF := hid (show plainE c = true by rw [HM.out, marks_b, m1, m2, Bool.false_or, Bool.true_or]; rfl)
            go_enter Tryz.func75, Tryz.ntmps75
            go_wp2_with fail
            go_ret
            exact ⟨ret_bool (by rw [HF.out]), rfl⟩
          | false =>
            cases m3 : ((c.toNat : Int) == 95) with
            | true =>
              have HF := hid (show plainE c = true by rw [HM.out, marks_b, m1, m2, m3, Bool.false_or, Bool.false_or]; rfl)
              go_enter Tryz.func75, Tryz.ntmps75
              go_wp2_with fail
              go_ret
              exact ⟨ret_bool (by rw [HF.out]), rfl⟩
            | false =>
              cases m4 : ((c.toNat : Int) == 126) with
              | true =>
                have HF := hid (show plainE c = true by rw [HM.out, marks_b, m1, m2, m3, m4]; rfl)
                go_enter Tryz.func75, Tryz.ntmps75
                go_wp2_with fail
                go_ret
                exact ⟨ret_bool (by rw [HF.out]), rfl⟩
              | false =>
                have HF := hid (show plainE c = false by rw [HM.out, marks_b, m1, m2, m3, m4]; rfl)
                go_enter Tryz.func75, Tryz.ntmps75
                go_wp2_with fail
                go_ret
                exact ⟨ret_bool (by rw [HF.out]), rfl⟩
    · by_cases h5 : (48 : Int) ≤ (c.toNat : Int)
      · by_cases h6 : (c.toNat : Int) ≤ 57
        · have HP := hid (plain_let (c := c) (.inr (.inr ⟨by omega, by omega⟩)))
          go_enter Tryz.func75, Tryz.ntmps75
          go_wp2_with fail
          go_ret
          exact ⟨ret_bool (HP.out), rfl⟩
        · have HM := hid (plain_mark (c := c) (by omega) (by omega) (by omega))
          cases m1 : ((c.toNat : Int) == 45) with
          | true =>
            have HF := hid (show plainE c = true by rw [HM.out, marks_b, m1, Bool.true_or, Bool.true_or]; rfl)
            go_enter Tryz.func75, Tryz.ntmps75
            go_wp2_with fail
            go_ret
            exact ⟨ret_bool (by rw [HF.out]), rfl⟩
          | false =>
            cases m2 : ((c.toNat : Int) == 46) with
            | true =>
              have HF := hid (show plainE c = true by rw [HM.out, marks_b, m1, m2, Bool.false_or, Bool.true_or]; rfl)
              go_enter Tryz.func75, Tryz.ntmps75
              go_wp2_with fail
              go_ret
              exact ⟨ret_bool (by rw [HF.out]), rfl⟩
            | false =>
              cases m3 : ((c.toNat : Int) == 95) with
              | true =>
                have HF := hid (show plainE c = true by rw [HM.out, marks_b, m1, m2, m3, Bool.false_or, Bool.false_or]; rfl)
                go_enter Tryz.func75, Tryz.ntmps75
                go_wp2_with fail
                go_ret
                exact ⟨ret_bool (by rw [HF.out]), rfl⟩
              | false =>
                cases m4 : ((c.toNat : Int) == 126) with
                | true =>
                  have HF := hid (show plainE c = true by rw [HM.out, marks_b, m1, m2, m3, m4]; rfl)
                  go_enter Tryz.func75, Tryz.ntmps75
                  go_wp2_with fail
                  go_ret
                  exact ⟨ret_bool (by rw [HF.out]), rfl⟩
                | false =>
                  have HF := hid (show plainE c = false by rw [HM.out, marks_b, m1, m2, m3, m4]; rfl)
                  go_enter Tryz.func75, Tryz.ntmps75
                  go_wp2_with fail
                  go_ret
                  exact ⟨ret_bool (by rw [HF.out]), rfl⟩
      · have HM := hid (plain_mark (c := c) (by omega) (by omega) (by omega))
        cases m1 : ((c.toNat : Int) == 45) with
        | true =>
          have HF := hid (show plainE c = true by rw [HM.out, marks_b, m1, Bool.true_or, Bool.true_or]; rfl)
          go_enter Tryz.func75, Tryz.ntmps75
          go_wp2_with fail
          go_ret
          exact ⟨ret_bool (by rw [HF.out]), rfl⟩
        | false =>
          cases m2 : ((c.toNat : Int) == 46) with
          | true =>
            have HF := hid (show plainE c = true by rw [HM.out, marks_b, m1, m2, Bool.false_or, Bool.true_or]; rfl)
            go_enter Tryz.func75, Tryz.ntmps75
            go_wp2_with fail
            go_ret
            exact ⟨ret_bool (by rw [HF.out]), rfl⟩
          | false =>
            cases m3 : ((c.toNat : Int) == 95) with
            | true =>
              have HF := hid (show plainE c = true by rw [HM.out, marks_b, m1, m2, m3, Bool.false_or, Bool.false_or]; rfl)
              go_enter Tryz.func75, Tryz.ntmps75
              go_wp2_with fail
              go_ret
              exact ⟨ret_bool (by rw [HF.out]), rfl⟩
            | false =>
              cases m4 : ((c.toNat : Int) == 126) with
              | true =>
                have HF := hid (show plainE c = true by rw [HM.out, marks_b, m1, m2, m3, m4]; rfl)
                go_enter Tryz.func75, Tryz.ntmps75
                go_wp2_with fail
                go_ret
                exact ⟨ret_bool (by rw [HF.out]), rfl⟩
              | false =>
                have HF := hid (show plainE c = false by rw [HM.out, marks_b, m1, m2, m3, m4]; rfl)
                go_enter Tryz.func75, Tryz.ntmps75
                go_wp2_with fail
                go_ret
                exact ⟨ret_bool (by rw [HF.out]), rfl⟩
set_option maxRecDepth 100000 in
set_option maxHeartbeats 4000000 in
theorem rnibble_any (c : UInt8) (w : World) : Calls Tryz.prog 145 #[.int .u8 (c.toNat : Int)] w fun e w' => e = .returned (.int .i64 (nibI (lowC c))) ∧ w = w' := by
  have hc := c.toNat_lt
  by_cases h : 65 ≤ c.toNat ∧ c.toNat ≤ 70
  · have HL := hid (show lowC c = c + 32 by unfold lowC; rw [if_pos h])
    have h1 : (65 : Int) ≤ (c.toNat : Int) := by omega
    have h2 : (c.toNat : Int) ≤ 70 := by omega
    have h3 : IntKind.u8.wrap ((c.toNat : Int) + 32) = ((c + 32).toNat : Int) := by
      rw [IntWalk.u8_in _ (by omega), UInt8.toNat_add]
      have : (32 : UInt8).toNat = 32 := rfl
      omega
    obtain ⟨d, hd⟩ : ∃ d, d = c + 32 := ⟨_, rfl⟩
    rw [← hd] at HL h3
    clear h hd
    go_enter Tryz.func145, Tryz.ntmps145
    go_wp2_with fail
    refine (nibble_any d _).mono ?_
    rintro e w1 ⟨rfl, rfl⟩
    go_wp2_with fail
    go_ret
    exact ⟨by rw [HL.out]; rfl, rfl⟩
  · have HL := hid (show lowC c = c by unfold lowC; rw [if_neg h])
    by_cases h1 : (65 : Int) ≤ (c.toNat : Int)
    · have h2 : ¬ (c.toNat : Int) ≤ 70 := by omega
      clear h
      go_enter Tryz.func145, Tryz.ntmps145
      go_wp2_with fail
      refine (nibble_any c _).mono ?_
      rintro e w1 ⟨rfl, rfl⟩
      go_wp2_with fail
      go_ret
      exact ⟨by rw [HL.out]; rfl, rfl⟩
    · clear h
      go_enter Tryz.func145, Tryz.ntmps145
      go_wp2_with fail
      refine (nibble_any c _).mono ?_
      rintro e w1 ⟨rfl, rfl⟩
      go_wp2_with fail
      go_ret
      exact ⟨by rw [HL.out]; rfl, rfl⟩
end Go.Proofs.YtecjdppkpfpniaaGreatDoor
