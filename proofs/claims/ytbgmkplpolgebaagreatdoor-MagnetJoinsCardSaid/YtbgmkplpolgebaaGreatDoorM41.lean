/-
  Several texts in one, in their build order. The reference's text of an address. Conditions: the address is right.
-/
import Derived.Test.YtbgmkplpolgebaaGreatDoorM32
namespace Go.Proofs.YtbgmkplpolgebaaGreatDoor
set_option linter.unusedSimpArgs false
set_option linter.unusedVariables false
open Go.RowKit Go.Shelf

end Go.Proofs.YtbgmkplpolgebaaGreatDoor
