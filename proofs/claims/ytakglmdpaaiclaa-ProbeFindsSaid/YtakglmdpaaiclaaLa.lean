/-
  The walks of the law's own functions awake and run. Conditions: as they stand.
-/
import Derived.Test.YtakglmdpaaiclaaFc
namespace Go.Proofs.Ytakglmdpaaiclaa
set_option linter.unusedSimpArgs false
set_option linter.unusedVariables false
open Go.RowKit

theorem awake_run : findRun 1400 [] 1000 (newSt 576 1500) = (1399, 10, 0) := by decide +kernel

theorem awake_any (w : World) :
    Calls Try.prog 6 #[] w fun e w' => e = .returned (.bool true) ∧ New w w' := by
  have hc := hid (fun w => find_any 576 1500 1400 none 0 0 [] w (by decide) (by omega) (.inl ⟨⟨_, _, rfl⟩, rfl⟩))
  go_enter Try.func6, Try.ntmps6
  go_wp2_with (go_at_call 7; refine (hc.out _).mono ?_; rw [awake_run]; rintro e w' ⟨rfl, hn⟩; have HN := hid hn; clear hn)
  go_ret
  exact ⟨rfl, HN.out⟩
end Go.Proofs.Ytakglmdpaaiclaa
