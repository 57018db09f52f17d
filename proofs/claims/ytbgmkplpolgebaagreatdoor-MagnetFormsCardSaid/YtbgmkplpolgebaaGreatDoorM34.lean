/-
  Several texts in one, in their build order. Each thing once (package magnet: once), of texts and of addresses. Conditions: the lists lie as told; they are small. The bits of either of two fields (package bits: open for two, Or). Conditions: the fields are right; at most 4096 bits.
-/
import Derived.Test.YtbgmkplpolgebaaGreatDoorM33
import Derived.Test.YtbgmkplpolgebaaGreatDoorM30
import Derived.Test.YtbgmkplpolgebaaGreatDoorM17
namespace Go.Proofs.YtbgmkplpolgebaaGreatDoor
set_option linter.unusedSimpArgs false
set_option linter.unusedVariables false
open Go.RowKit Go.Shelf

theorem OwnS.base {w : World} {base base' : Nat} {v : Value} {l : List ByteArray} (h : OwnS w base v l) (hb : base' ≤ base) : OwnS w base' v l := ⟨rowBase h.row hb, h.small⟩
theorem OwnA.base {w : World} {base base' : Nat} {v : Value} {l : List AdrV} (h : OwnA w base v l) (hb : base' ≤ base) : OwnA w base' v l := ⟨rowBase h.row hb⟩
end Go.Proofs.YtbgmkplpolgebaaGreatDoor

namespace Go.Proofs.YtbgmkplpolgebaaGreatDoor
set_option linter.unusedSimpArgs false
set_option linter.unusedVariables false
open Go.RowKit Go.Shelf

end Go.Proofs.YtbgmkplpolgebaaGreatDoor
