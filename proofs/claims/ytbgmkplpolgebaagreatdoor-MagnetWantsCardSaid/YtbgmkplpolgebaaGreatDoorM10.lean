/-
  Several texts in one, in their build order. What reading a message computes, told in plain words, by the program and by the reference; both read just what is written of valid messages. Plain Lean, no program. No condition. The walks of Hex, of the program and of the reference: bytes in hexadecimal digits. Condition: the text is small.
-/
import Derived.Test.YtbgmkplpolgebaaGreatDoorM8
import Derived.Test.YtbgmkplpolgebaaGreatDoorM9
import Derived.Lib.IndexMore
import Derived.Test.YtbgmkplpolgebaaGreatDoorM3
import Derived.Test.YtbgmkplpolgebaaGreatDoorM2
import Derived.Deep.RegionHeld3
import Derived.Deep.AppendLies
namespace Go.Proofs.YtbgmkplpolgebaaGreatDoor
set_option linter.unusedSimpArgs false
set_option linter.unusedVariables false

/-! ### the lines -/
/-! ### the program's reading -/
/-! what was read is a valid message's lines -/
/-! a valid message's lines are read -/
/-! ### the reference's reading -/
end Go.Proofs.YtbgmkplpolgebaaGreatDoor

namespace Go.Proofs.YtbgmkplpolgebaaGreatDoor
set_option linter.unusedSimpArgs false
set_option linter.unusedVariables false
open Go.RowKit

theorem byteAtL (t : ByteArray) {k : Nat} (h : k < t.size) : t.data.toList[k]'(by rw [Array.length_toList]; exact h) = t[k] := rfl
end Go.Proofs.YtbgmkplpolgebaaGreatDoor
