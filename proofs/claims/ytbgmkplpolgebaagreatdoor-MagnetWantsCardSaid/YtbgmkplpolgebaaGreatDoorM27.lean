/-
  Several texts in one, in their build order. The walks of the functions that read a magnet's parts (package magnet), told of a reader with its lists. Conditions: the reader lies as told; the text is small; the library's variables are as laid. The walks of the functions that read a magnet's addresses and runs (package magnet). Conditions: the reader lies as told; the text is small; the library's variables are as laid.
-/
import Derived.Test.YtbgmkplpolgebaaGreatDoorM23
import Derived.Test.YtbgmkplpolgebaaGreatDoorM26
import Derived.Test.YtbgmkplpolgebaaGreatDoorM21
import Derived.Test.YtbgmkplpolgebaaGreatDoorM4
namespace Go.Proofs.YtbgmkplpolgebaaGreatDoor
set_option linter.unusedSimpArgs false
set_option linter.unusedVariables false
open Go.RowKit Go.Shelf

def PartE : Except Int MgV → Ending
  | .ok _ => .returned (.tuple #[])
  | .error k => .panicked (toldM k)
def PartQ (B base : Nat) (w : World) (x : Except Int MgV) (e : Ending) (w' : World) : Prop := e = PartE x ∧ (∀ m, x = .ok m → ∃ r, RdIs 49 w' B base m r) ∧ Mod (fun k => k = B ∨ base ≤ k) w w'
theorem PartQ.no {B base : Nat} {w w' : World} {x : Except Int MgV} {k : Int} (h : x = .error k) (m : Mod (fun k => k = B ∨ base ≤ k) w w') : PartQ B base w x (.panicked (toldM k)) w' := by
  subst h
  exact ⟨rfl, fun _ q => (by cases q), m⟩
theorem PartQ.yes {B base : Nat} {w w' : World} {x : Except Int MgV} {m : MgV} {r : RdM} (h : x = .ok m) (hr : RdIs 49 w' B base m r) (n : Mod (fun k => k = B ∨ base ≤ k) w w') : PartQ B base w x (.returned (.tuple #[])) w' := by
  subst h
  exact ⟨rfl, fun m' q => (by injection q with q; subst q; exact ⟨r, hr⟩), n⟩
end Go.Proofs.YtbgmkplpolgebaaGreatDoor

namespace Go.Proofs.YtbgmkplpolgebaaGreatDoor
set_option linter.unusedSimpArgs false
set_option linter.unusedVariables false
open Go.RowKit Go.Shelf

end Go.Proofs.YtbgmkplpolgebaaGreatDoor
