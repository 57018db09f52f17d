/-
  Several texts in one, in their build order. The walk of Text (package bits). Conditions: the field is right; the library's variables are as laid. The walk of Parse (package bits). Conditions: at most 4096 bits; the text is small; the library's variables are as laid.
-/
import Derived.Test.YtbgmkplpolgebaaGreatDoorM20
namespace Go.Proofs.YtbgmkplpolgebaaGreatDoor
set_option linter.unusedSimpArgs false
set_option linter.unusedVariables false
open Go.RowKit Go.Shelf

end Go.Proofs.YtbgmkplpolgebaaGreatDoor

namespace Go.Proofs.YtbgmkplpolgebaaGreatDoor
set_option linter.unusedSimpArgs false
set_option linter.unusedVariables false
open Go.RowKit Go.Shelf

end Go.Proofs.YtbgmkplpolgebaaGreatDoor
