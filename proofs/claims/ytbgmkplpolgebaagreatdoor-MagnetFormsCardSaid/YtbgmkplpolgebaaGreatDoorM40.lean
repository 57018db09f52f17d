/-
  Several texts in one, in their build order. The reference's reading of an address. Conditions: the text is small.
-/
import Derived.Test.YtbgmkplpolgebaaGreatDoorM38
import Derived.Test.YtbgmkplpolgebaaGreatDoorM26
import Derived.Test.YtbgmkplpolgebaaGreatDoorM22
import Derived.Test.YtbgmkplpolgebaaGreatDoorM6
namespace Go.Proofs.YtbgmkplpolgebaaGreatDoor
set_option linter.unusedSimpArgs false
set_option linter.unusedVariables false
open Go.RowKit Go.Shelf

theorem OwnY.set {w : World} {base : Nat} {v : Value} {l : List UInt8} (h : OwnY w base v l) {b : Nat} (hb : b < base) (i : Nat) (u : Value) : OwnY (w.setCell ⟨b, i, none⟩ u) base v l := by
  have m : Mod (fun j => j = b) w (w.setCell ⟨b, i, none⟩ u) := (Mod.refl _ w).set _ _ (.inl rfl)
  have g : w.grownBy (w.setCell ⟨b, i, none⟩ u) (some b) := ⟨m.os, m.tape, m.output, m.size, fun k hk hne => m.block k hk (fun e => hne (by rw [e]))⟩
  unfold OwnY at h ⊢
  refine h.kept g (.inr (fun q => ?_))
  have := OwnY.block (l := l) h q
  omega
end Go.Proofs.YtbgmkplpolgebaaGreatDoor
