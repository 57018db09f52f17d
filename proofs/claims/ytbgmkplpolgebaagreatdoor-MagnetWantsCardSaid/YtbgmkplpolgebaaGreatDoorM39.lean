/-
  Several texts in one, in their build order. The walk of Parse (package magnet), for any text: the walk. Conditions: the library's variables are as laid.
-/
import Derived.Test.YtbgmkplpolgebaaGreatDoorM28
namespace Go.Proofs.YtbgmkplpolgebaaGreatDoor
set_option linter.unusedSimpArgs false
set_option linter.unusedVariables false
open Go.RowKit Go.Shelf

def zeroMg : Array Value := #[.string ⟨#[]⟩, .string ⟨#[]⟩, .string ⟨#[]⟩, .slice none 0 0, .slice none 0 0, .slice none 0 0, .slice none 0 0]
end Go.Proofs.YtbgmkplpolgebaaGreatDoor
