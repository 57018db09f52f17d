/-
  Several texts in one, in their build order. The reference's Text of a field. Conditions: the field is right. The reference's Parse of a text of runs. Conditions: at most 4096 bits; the text is small. What is read of a magnet's text is right. Plain Lean, no program. No condition.
-/
import Derived.Test.YtbgmkplpolgebaaGreatDoorM18
import Derived.Test.YtbgmkplpolgebaaGreatDoorM21
import Derived.Test.YtbgmkplpolgebaaGreatDoorM16
namespace Go.Proofs.YtbgmkplpolgebaaGreatDoor
set_option linter.unusedSimpArgs false
set_option linter.unusedVariables false
open Go.RowKit Go.Shelf

end Go.Proofs.YtbgmkplpolgebaaGreatDoor

namespace Go.Proofs.YtbgmkplpolgebaaGreatDoor
set_option linter.unusedSimpArgs false
set_option linter.unusedVariables false
open Go.RowKit Go.Shelf

end Go.Proofs.YtbgmkplpolgebaaGreatDoor

namespace Go.Proofs.YtbgmkplpolgebaaGreatDoor
set_option linter.unusedSimpArgs false
set_option linter.unusedVariables false

structure MgOk (m : MgV) : Prop where
  old : m.old.size = 0 ∨ m.old.size = 20
  new : m.new.size = 0 ∨ m.new.size = 32
  name : m.name.size ≤ 100
  tr : ∀ s ∈ m.tr, 1 ≤ s.size ∧ s.size ≤ 200
  trl : m.tr.length ≤ 10
  ws : ∀ s ∈ m.ws, 1 ≤ s.size ∧ s.size ≤ 200
  wsl : m.ws.length ≤ 10
  pe : ∀ a ∈ m.pe, adrOk a = true
  pel : m.pe.length ≤ 20
  on : ∃ f, FieldOf 40 f ∧ m.on = runsF 40 f
theorem runsF_zero (n : Nat) : runsF n (zerosL n) = [] := by
  unfold runsF
  have : numsL n (zerosL n) = [] := by
    unfold numsL
    rw [List.filter_eq_nil_iff]
    intro j _
    unfold zerosL
    rw [bitL_zero]
    decide
  rw [this]
  rfl
theorem MgOk.zero : MgOk mg0 := ⟨.inl rfl, .inl rfl, by decide, by simp [mg0], by decide, by simp [mg0], by decide, by simp [mg0], by decide, ⟨zerosL 40, FieldOf.zero 40, (runsF_zero 40).symm⟩⟩
end Go.Proofs.YtbgmkplpolgebaaGreatDoor
