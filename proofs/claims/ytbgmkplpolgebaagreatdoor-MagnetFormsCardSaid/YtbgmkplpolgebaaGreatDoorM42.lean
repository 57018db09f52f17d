/-
  Several texts in one, in their build order. The reference's text of a list. Conditions: the reader lies as told; the text is small. The reference's runs of a magnet. Conditions: the reader lies as told; the text is small.
-/
import Derived.Test.YtbgmkplpolgebaaGreatDoorM41
import Derived.Test.YtbgmkplpolgebaaGreatDoorM27
import Derived.Test.YtbgmkplpolgebaaGreatDoorM28
namespace Go.Proofs.YtbgmkplpolgebaaGreatDoor
set_option linter.unusedSimpArgs false
set_option linter.unusedVariables false
open Go.RowKit Go.Shelf

def codeM : Except Int MgV → Int
  | .ok _ => 0
  | .error k => k
def PartR (B base : Nat) (w : World) (x : Except Int MgV) (e : Ending) (w' : World) : Prop := e = .returned (.int .i64 (codeM x)) ∧ (∀ m, x = .ok m → ∃ r, RdIs 59 w' B base m r) ∧ Mod (fun k => k = B ∨ base ≤ k) w w'
theorem PartR.no {B base : Nat} {w w' : World} {x : Except Int MgV} {k : Int} (h : x = .error k) (m : Mod (fun k => k = B ∨ base ≤ k) w w') : PartR B base w x (.returned (.int .i64 k)) w' := by
  subst h
  exact ⟨rfl, fun _ q => (by cases q), m⟩
theorem PartR.yes {B base : Nat} {w w' : World} {x : Except Int MgV} {m : MgV} {r : RdM} (h : x = .ok m) (hr : RdIs 59 w' B base m r) (n : Mod (fun k => k = B ∨ base ≤ k) w w') : PartR B base w x (.returned (.int .i64 0)) w' := by
  subst h
  exact ⟨rfl, fun m' q => (by injection q with q; subst q; exact ⟨r, hr⟩), n⟩
end Go.Proofs.YtbgmkplpolgebaaGreatDoor

namespace Go.Proofs.YtbgmkplpolgebaaGreatDoor
set_option linter.unusedSimpArgs false
set_option linter.unusedVariables false
open Go.RowKit Go.Shelf

end Go.Proofs.YtbgmkplpolgebaaGreatDoor
