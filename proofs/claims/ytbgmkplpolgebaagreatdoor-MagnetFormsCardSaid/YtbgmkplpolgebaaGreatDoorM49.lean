/-
  Several texts in one, in their build order. The walk of the reference's Parse of magnets, for any text. Condition: the text's length is a length.
-/
import Derived.Test.YtbgmkplpolgebaaGreatDoorM48
namespace Go.Proofs.YtbgmkplpolgebaaGreatDoor
set_option linter.unusedSimpArgs false
set_option linter.unusedVariables false
open Go.RowKit Go.Shelf

end Go.Proofs.YtbgmkplpolgebaaGreatDoor
