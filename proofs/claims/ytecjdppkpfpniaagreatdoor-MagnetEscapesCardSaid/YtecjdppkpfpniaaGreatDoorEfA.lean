/-
  A closed fact of MagnetEscapes' frame, in a text of its own: each wants up to 10 GB. No condition.
-/
import Derived.Test.YtecjdppkpfpniaaGreatDoorTie
import Derived.Test.YtecjdppkpfpniaaGreatDoorCards
import Derived.Test.YtecjdppkpfpniaaGreatDoorFrm
import Derived.JoinedOf
import Derived.SevenTiedAt
namespace Go.Proofs.YtecjdppkpfpniaaGreatDoor.magnetEscapes
open Go.ChangeShapes Go.WideShapes Go.ChangeAt Go.RowKit
set_option maxRecDepth 100000
theorem closedF : joinedFacts Tryz.pinned.checked.prog 6 Tryz.f6 Rows.magnetEscapesSpec Rows.magnetEscapesRow = true := by kernel_rfl
end Go.Proofs.YtecjdppkpfpniaaGreatDoor.magnetEscapes
