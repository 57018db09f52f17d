/-
  Several texts in one, in their build order. The walk of Escape (the reference). Condition: the text is small.
-/
import Derived.Test.YtbgmkplpolgebaaGreatDoorM7
namespace Go.Proofs.YtbgmkplpolgebaaGreatDoor
set_option linter.unusedSimpArgs false
set_option linter.unusedVariables false
open Go.RowKit Go.Shelf

theorem ownY_none {w : World} {b : Nat} (h : Blk w b #[] 5) : OwnY w b (.slice (some ⟨b, 0, none⟩) 0 0) [] :=
  ⟨by simp [byV], .inr ⟨b, 0, #[], rfl, Nat.le_refl _, h, Nat.le_refl _, by simp [maxLen], by simp, by simp [byV]⟩⟩
end Go.Proofs.YtbgmkplpolgebaaGreatDoor
