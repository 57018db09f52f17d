/-
  Several texts in one, in their build order. What one calls at its good exit. Conditions: the text is small.
-/
import Derived.Test.YtnccfikimmolgaaGreatDoorM35
namespace Go.Proofs.YtnccfikimmolgaaGreatDoor
set_option linter.unusedSimpArgs false
set_option linter.unusedVariables false
open Go.RowKit Go.Shelf

theorem ext_head (U : ByteArray) (k : Nat) : (U.extract 0 k).data.toList = U.data.toList.take k := by rw [ext_list, List.drop_zero, Nat.sub_zero]
theorem ext_tail (U : ByteArray) (k : Nat) : (U.extract k U.size).data.toList = U.data.toList.drop k := by
  rw [ext_list]
  apply List.take_of_length_le
  rw [List.length_drop, Array.length_toList]
  have : U.data.size = U.size := rfl
  omega
theorem good_digits (U : ByteArray) (k : Nat) (hU : U.size ≤ 70000) (h1 : (U.data.toList.take k).all isDig = true) (h2 : canon (U.data.toList.take k) = true) (W : World) :
    Calls Tryz.prog 71 #[.string (U.extract 0 k), .int .i64 65536] W fun e w' => e = .returned (.int .i64 (digR (U.data.toList.take k))) ∧ New W w' := by
  have h := rDigits_any (U.extract 0 k) W (by rw [ByteArray.size_extract]; omega) (by rw [ext_head]; exact h1) (by rw [ext_head]; exact h2)
  rw [ext_head] at h
  exact h
theorem good_cut (U : ByteArray) (k : Nat) (hU : U.size ≤ 70000) (W : World) :
    Calls Tryz.prog 72 #[.string (U.extract k U.size), .int .u8 47] W fun e w' => ∃ a d, e = .returned (.slice a (pathP (U.data.toList.drop k)).length d) ∧ StrsAt w' a d (pathP (U.data.toList.drop k)) ∧ (∀ x, a = some x → W.heap.size ≤ x.block ∧ x.block < w'.heap.size) ∧ New W w' := by
  have h := rCutS_any (U.extract k U.size) 47 W (by rw [ByteArray.size_extract]; omega)
  rw [ext_tail] at h
  exact h
end Go.Proofs.YtnccfikimmolgaaGreatDoor
