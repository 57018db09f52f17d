/-
  Several texts in one, in their build order. The topics of two magnets put together (package magnet: Join's own function). Condition: the cell that notes a common topic lies as told. Lists put behind one another (slices.Grow, slices.Concat), of texts and of addresses. Conditions: the lists lie as told; they are small. Each thing once (package magnet: once, with slices.Index and slices.Contains), of texts and of addresses. Conditions: the lists lie as told; they are small.
-/
import Derived.Test.YtbgmkplpolgebaaGreatDoorM32
import Derived.Lib.MinMaxS
import Derived.Test.YtbgmkplpolgebaaGreatDoorM30
import Derived.Laws.OwnMore
import Derived.Lib.AppendZeros
import Derived.Test.YtbgmkplpolgebaaGreatDoorM31
namespace Go.Proofs.YtbgmkplpolgebaaGreatDoor
set_option linter.unusedSimpArgs false
set_option linter.unusedVariables false
open Go.RowKit Go.Shelf

theorem strE {s : ByteArray} (h : s.size = 0) : (s.toList == []) = true ∧ (s.toList != []) = false ∧ s.toList.isEmpty = true ∧ s.data.toList = [] := by
  have hl : s.data.toList.length = s.size := by rw [Array.length_toList]; rfl
  have e : s.data.toList = [] := List.eq_nil_of_length_eq_zero (by omega)
  have e1 : (s.toList == []) = true := by rw [beq_iff_eq, ByteArray.toList_eq]; exact e
  exact ⟨e1, by rw [bne, e1]; rfl, by rw [ByteArray.toList_eq, e]; rfl, e⟩
theorem strN {s : ByteArray} (h : ¬ s.size = 0) : (s.toList == []) = false ∧ (s.toList != []) = true ∧ s.toList.isEmpty = false ∧ s.data.toList ≠ [] := by
  have hl : s.data.toList.length = s.size := by rw [Array.length_toList]; rfl
  have e : s.data.toList ≠ [] := fun e => by rw [e] at hl; exact h hl.symm
  have e1 : (s.toList == []) = false := by rw [beq_eq_false_iff_ne, ByteArray.toList_eq]; exact e
  refine ⟨e1, by rw [bne, e1]; rfl, ?_, e⟩
  rw [ByteArray.toList_eq]
  cases hq : s.data.toList with
  | nil => exact absurd hq e
  | cons a b => rfl
end Go.Proofs.YtbgmkplpolgebaaGreatDoor

namespace Go.Proofs.YtbgmkplpolgebaaGreatDoor
set_option linter.unusedSimpArgs false
set_option linter.unusedVariables false
open Go.RowKit Go.Shelf

end Go.Proofs.YtbgmkplpolgebaaGreatDoor

namespace Go.Proofs.YtbgmkplpolgebaaGreatDoor
set_option linter.unusedSimpArgs false
set_option linter.unusedVariables false
open Go.RowKit Go.Shelf

end Go.Proofs.YtbgmkplpolgebaaGreatDoor
