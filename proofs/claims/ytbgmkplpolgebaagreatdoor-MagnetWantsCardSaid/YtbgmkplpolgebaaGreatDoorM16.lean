/-
  Several texts in one, in their build order. Addresses read, told twice (as package addr reads, and as the reference does): both read just what is written. Plain Lean, no program. No condition. The two replacements of a comma's escape are one pass. Plain Lean, no program. No condition. What a magnet's text says, told once in plain words. Plain Lean, no program. No condition.
-/
import Derived.Test.YtbgmkplpolgebaaGreatDoorM15
import Derived.Test.YtbgmkplpolgebaaGreatDoorM1
import Derived.Lib.Replace
import Derived.Lib.CountLaws
import Derived.Lib.IndexMore
namespace Go.Proofs.YtbgmkplpolgebaaGreatDoor
set_option linter.unusedSimpArgs false
set_option linter.unusedVariables false

end Go.Proofs.YtbgmkplpolgebaaGreatDoor

namespace Go.Proofs.YtbgmkplpolgebaaGreatDoor
set_option linter.unusedSimpArgs false
set_option linter.unusedVariables false

end Go.Proofs.YtbgmkplpolgebaaGreatDoor

namespace Go.Proofs.YtbgmkplpolgebaaGreatDoor
set_option linter.unusedSimpArgs false
set_option linter.unusedVariables false

/-- A magnet under way. -/
structure MgV where
  old : ByteArray
  new : ByteArray
  name : ByteArray
  tr : List ByteArray
  pe : List AdrV
  ws : List ByteArray
  on : List (Int × Int)
  named : Bool
  only : Bool
def mg0 : MgV := ⟨⟨#[]⟩, ⟨#[]⟩, ⟨#[]⟩, [], [], [], [], false, false⟩
def rdZero (m : MgV) : RdM := ⟨m.old, m.new, m.name, .slice none 0 0, .slice none 0 0, .slice none 0 0, .slice none 0 0, m.named, m.only⟩
end Go.Proofs.YtbgmkplpolgebaaGreatDoor
