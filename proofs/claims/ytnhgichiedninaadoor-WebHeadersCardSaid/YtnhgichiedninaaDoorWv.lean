/-
  The walks of web.Valid and of the reference's. Condition: the text's length is an int.
-/
import Derived.Test.YtnhgichiedninaaDoorWm
import Derived.Test.YtnhgichiedninaaDoorShelfW
import Derived.Test.YtnhgichiedninaaDoorQuiet
namespace Go.Proofs.YtnhgichiedninaaDoor
set_option linter.unusedSimpArgs false
set_option linter.unusedVariables false
open Go.RowKit Go.Shelf

theorem prefix_eq (s : ByteArray) (p : List UInt8) {v : Bool} (h : Lib.hasPrefix s.data.toList p = v) (w : World) : Calls Tryd.prog 18 #[.string s, .string ⟨p.toArray⟩] w fun e w' => e = .returned (.bool v) ∧ w = w' :=
  (Tryd.strings_HasPrefix s ⟨p.toArray⟩ w).mono fun e w' ⟨he, hw⟩ => ⟨by rw [he, ← h], hw.symm⟩
set_option maxRecDepth 100000 in
theorem wValid_any (u : ByteArray) (w : World) (hu : u.size ≤ 9223372036854775807) : Calls Tryd.prog 8 #[.string u] w fun e w' => e = .returned (.bool (validU u)) ∧ w = w' := by
  by_cases h200 : u.size ≤ 200
  · have e0 : decide ((u.size : Int) ≤ 200) = true := decide_eq_true (by omega)
    have hv : validU u = (Lib.hasPrefix u.data.toList httpB || Lib.hasPrefix u.data.toList httpsB) := by simp [validU, h200]
    rw [hv]
    cases h1 : Lib.hasPrefix u.data.toList httpB with
    | true =>
      have H1 := hid (fun w => prefix_eq u httpB h1 w)
      have H2 := hid True.intro
      clear hv h1
      go_enter Tryd.func8, Tryd.ntmps8
      go_wp2_with fail
      refine (H1.out _).mono ?_
      rintro e w1 ⟨rfl, rfl⟩
      go_wp2
      go_ret
      exact ⟨rfl, rfl⟩
    | false =>
      cases h2 : Lib.hasPrefix u.data.toList httpsB with
      | true =>
        have H1 := hid (fun w => prefix_eq u httpB h1 w)
        have H2 := hid (fun w => prefix_eq u httpsB h2 w)
        clear hv h1 h2
        go_enter Tryd.func8, Tryd.ntmps8
        go_wp2_with fail
        refine (H1.out _).mono ?_
        rintro e w1 ⟨rfl, rfl⟩
        go_wp2_with fail
        refine (H2.out _).mono ?_
        rintro e w1 ⟨rfl, rfl⟩
        go_wp2
        go_ret
        exact ⟨rfl, rfl⟩
      | false =>
        have H1 := hid (fun w => prefix_eq u httpB h1 w)
        have H2 := hid (fun w => prefix_eq u httpsB h2 w)
        clear hv h1 h2
        go_enter Tryd.func8, Tryd.ntmps8
        go_wp2_with fail
        refine (H1.out _).mono ?_
        rintro e w1 ⟨rfl, rfl⟩
        go_wp2_with fail
        refine (H2.out _).mono ?_
        rintro e w1 ⟨rfl, rfl⟩
        go_wp2
        go_ret
        exact ⟨rfl, rfl⟩
  · have e0 : decide ((u.size : Int) ≤ 200) = false := decide_eq_false (by omega)
    have hv : validU u = false := by simp [validU, h200]
    rw [hv]
    clear hv
    go_enter Tryd.func8, Tryd.ntmps8
    go_wp2
    go_ret
    exact ⟨rfl, rfl⟩
set_option maxRecDepth 100000 in
theorem wrValid_any (u : ByteArray) (w : World) (hu : u.size ≤ 9223372036854775807) : Calls Tryd.prog 9 #[.string u] w fun e w' => e = .returned (.bool (validU u)) ∧ w = w' := by
  by_cases h200 : u.size ≤ 200
  · have e0 : decide ((u.size : Int) ≤ 200) = true := decide_eq_true (by omega)
    have hv : validU u = (Lib.hasPrefix u.data.toList httpB || Lib.hasPrefix u.data.toList httpsB) := by simp [validU, h200]
    rw [hv]
    cases h1 : Lib.hasPrefix u.data.toList httpB with
    | true =>
      have H1 := hid (fun w => prefix_eq u httpB h1 w)
      have H2 := hid True.intro
      clear hv h1
      go_enter Tryd.func9, Tryd.ntmps9
      go_wp2_with fail
      refine (H1.out _).mono ?_
      rintro e w1 ⟨rfl, rfl⟩
      go_wp2
      go_ret
      exact ⟨rfl, rfl⟩
    | false =>
      cases h2 : Lib.hasPrefix u.data.toList httpsB with
      | true =>
        have H1 := hid (fun w => prefix_eq u httpB h1 w)
        have H2 := hid (fun w => prefix_eq u httpsB h2 w)
        clear hv h1 h2
        go_enter Tryd.func9, Tryd.ntmps9
        go_wp2_with fail
        refine (H1.out _).mono ?_
        rintro e w1 ⟨rfl, rfl⟩
        go_wp2_with fail
        refine (H2.out _).mono ?_
        rintro e w1 ⟨rfl, rfl⟩
        go_wp2
        go_ret
        exact ⟨rfl, rfl⟩
      | false =>
        have H1 := hid (fun w => prefix_eq u httpB h1 w)
        have H2 := hid (fun w => prefix_eq u httpsB h2 w)
        clear hv h1 h2
        go_enter Tryd.func9, Tryd.ntmps9
        go_wp2_with fail
        refine (H1.out _).mono ?_
        rintro e w1 ⟨rfl, rfl⟩
        go_wp2_with fail
        refine (H2.out _).mono ?_
        rintro e w1 ⟨rfl, rfl⟩
        go_wp2
        go_ret
        exact ⟨rfl, rfl⟩
  · have e0 : decide ((u.size : Int) ≤ 200) = false := decide_eq_false (by omega)
    have hv : validU u = false := by simp [validU, h200]
    rw [hv]
    clear hv
    go_enter Tryd.func9, Tryd.ntmps9
    go_wp2
    go_ret
    exact ⟨rfl, rfl⟩
end Go.Proofs.YtnhgichiedninaaDoor
