/-
  Several texts in one, in their build order. Texts cut: the library's Split and Cut at a byte, the reference's Cut and Digits. Conditions: texts are small; the library's variables are as laid. The walks of number and Text (package bits). Conditions: texts are small; the field is right; the library's variables are as laid.
-/
import Derived.Test.YtbgmkplpolgebaaGreatDoorM19
import Derived.Test.YtbgmkplpolgebaaGreatDoorM12
import Derived.Test.YtbgmkplpolgebaaGreatDoorM7
import Derived.Test.YtbgmkplpolgebaaGreatDoorM11
import Derived.Maps.AppendAt
import Derived.Test.YtbgmkplpolgebaaGreatDoorM18
import Derived.Test.YtbgmkplpolgebaaGreatDoorM15
namespace Go.Proofs.YtbgmkplpolgebaaGreatDoor
set_option linter.unusedSimpArgs false
set_option linter.unusedVariables false
open Go.RowKit Go.Shelf

/-- The strings that a call made. -/
def OwnT (w : World) (base : Nat) (v : Value) (P : List ByteArray) : Prop := w.ownsRow base 9 1 v P.length (P.map Value.string)
theorem OwnT.nil (w : World) (base : Nat) : OwnT w base (.slice none 0 0) [] := World.ownsRow_nil _ _ _ _
theorem OwnT.new {w w' : World} {base : Nat} {v : Value} {P : List ByteArray} (h : OwnT w base v P) (hn : New w w') : OwnT w' base v P := by
  refine World.ownsRow.kept h (row := none) ⟨hn.os, hn.tape, hn.output, hn.size, fun k hk _ => hn.block k hk (fun x => x)⟩ ?_
  cases e : v.ownBlock with
  | none => exact .inl rfl
  | some b => exact .inr (by simp)
end Go.Proofs.YtbgmkplpolgebaaGreatDoor

namespace Go.Proofs.YtbgmkplpolgebaaGreatDoor
set_option linter.unusedSimpArgs false
set_option linter.unusedVariables false
open Go.RowKit Go.Shelf

end Go.Proofs.YtbgmkplpolgebaaGreatDoor
