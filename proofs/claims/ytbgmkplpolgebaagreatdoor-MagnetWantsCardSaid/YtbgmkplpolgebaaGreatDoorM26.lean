/-
  Several texts in one, in their build order. The walk of Parse (package addr). Conditions: the text is small; the library's variables are as laid.
-/
import Derived.Test.YtbgmkplpolgebaaGreatDoorM24
import Derived.Test.YtbgmkplpolgebaaGreatDoorM25
import Derived.Deep.RegionHeld
namespace Go.Proofs.YtbgmkplpolgebaaGreatDoor
set_option linter.unusedSimpArgs false
set_option linter.unusedVariables false
open Go.RowKit Go.Shelf

/-- What is asked behind a region that may stop: at a stop just what the function's end wants to know. -/
def PQ (Z : Prop) (Q : Exit → Act → World → Prop) (w0 : World) (x y : Value) (ds : List Deferred) : Exit → Act → World → Prop
  | .panic c, a, w => Z ∧ c = toldA 2 ∧ New w0 w ∧ a.tmps.getD 2 undef = x ∧ a.tmps.getD 3 undef = y ∧ a.defers = ds
  | e, a, w => Q e a w
theorem PQ.put {Z : Prop} {Q : Exit → Act → World → Prop} {w0 : World} {x y : Value} {ds : List Deferred} (d : Nat) (h2 : d ≠ 2) (h3 : d ≠ 3) (v : Value) : ∀ c a w, PQ Z Q w0 x y ds (.panic c) (a.put (some d) v) w → PQ Z Q w0 x y ds (.panic c) a w := by
  rintro c a w ⟨qz, q1, q2, q3, q4, q5⟩
  refine ⟨qz, q1, q2, ?_, ?_, q5⟩
  · rw [← q3]
    show a.tmps.getD 2 undef = (a.tmps.setIfInBounds d v).getD 2 undef
    simp [Array.getD_eq_getD_getElem?, Array.getElem?_setIfInBounds, h2]
  · rw [← q4]
    show a.tmps.getD 3 undef = (a.tmps.setIfInBounds d v).getD 3 undef
    simp [Array.getD_eq_getD_getElem?, Array.getElem?_setIfInBounds, h3]
theorem name_worldA {p : World → Prop} {w : World} (h : ∀ W, W = w → p W) : p w := h w rfl
end Go.Proofs.YtbgmkplpolgebaaGreatDoor
