/-
  Several texts in one, in their build order. The walks of need, caught, number (package addr). Conditions: the text is small; the library's variables are as laid. The walks of the two families' read (package addr). Conditions: the text is small; the library's variables are as laid. The walk of six's read (package addr). Conditions: the text is small; the library's variables are as laid.
-/
import Derived.Test.YtbgmkplpolgebaaGreatDoorM23
import Derived.Test.YtbgmkplpolgebaaGreatDoorM2
import Derived.Defers
import Derived.Recover
import Derived.Test.YtbgmkplpolgebaaGreatDoorM16
import Derived.Test.YtbgmkplpolgebaaGreatDoorM20
import Derived.Test.YtbgmkplpolgebaaGreatDoorM3
namespace Go.Proofs.YtbgmkplpolgebaaGreatDoor
set_option linter.unusedSimpArgs false
set_option linter.unusedVariables false
open Go.RowKit Go.Shelf

/-- What a call stops with. -/
def toldA (k : Int) : List PanicEntry := [{ v := .iface 189 (.int .i64 k), recovered := false }]
end Go.Proofs.YtbgmkplpolgebaaGreatDoor

namespace Go.Proofs.YtbgmkplpolgebaaGreatDoor
set_option linter.unusedSimpArgs false
set_option linter.unusedVariables false
open Go.RowKit Go.Shelf

end Go.Proofs.YtbgmkplpolgebaaGreatDoor

namespace Go.Proofs.YtbgmkplpolgebaaGreatDoor
set_option linter.unusedSimpArgs false
set_option linter.unusedVariables false
open Go.RowKit Go.Shelf

end Go.Proofs.YtbgmkplpolgebaaGreatDoor
