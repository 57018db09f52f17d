/-
  Several texts in one, in their build order. The reference's begins and topic. Condition: the text is small. The reference's topics. Conditions: the reader lies as told; the text is small.
-/
import Derived.Test.YtbgmkplpolgebaaGreatDoorM7
import Derived.Test.YtbgmkplpolgebaaGreatDoorM8
import Derived.Test.YtbgmkplpolgebaaGreatDoorM40
import Derived.Test.YtbgmkplpolgebaaGreatDoorM23
namespace Go.Proofs.YtbgmkplpolgebaaGreatDoor
set_option linter.unusedSimpArgs false
set_option linter.unusedVariables false
open Go.RowKit Go.Shelf

end Go.Proofs.YtbgmkplpolgebaaGreatDoor

namespace Go.Proofs.YtbgmkplpolgebaaGreatDoor
set_option linter.unusedSimpArgs false
set_option linter.unusedVariables false
open Go.RowKit Go.Shelf

def RdOutR (B : Nat) (w : World) : Except Int RdM → Ending → World → Prop
  | .ok r, e, w' => e = .returned (.int .i64 0) ∧ Blk w' B (rdRow r) 59 ∧ Mod (fun k => k = B) w w'
  | .error k, e, w' => e = .returned (.int .i64 k) ∧ Mod (fun k => k = B) w w'
theorem RdOutR.no {B : Nat} {w w' : World} {x : Except Int RdM} {k : Int} (h : x = .error k) (m : Mod (fun k => k = B) w w') : RdOutR B w x (.returned (.int .i64 k)) w' := by subst h; exact ⟨rfl, m⟩
theorem RdOutR.yes {B : Nat} {w w' : World} {x : Except Int RdM} {r : RdM} (h : x = .ok r) (hb : Blk w' B (rdRow r) 59) (m : Mod (fun k => k = B) w w') : RdOutR B w x (.returned (.int .i64 0)) w' := by subst h; exact ⟨rfl, hb, m⟩
end Go.Proofs.YtbgmkplpolgebaaGreatDoor
