/-
  Whether a text is in a list of texts. Plain Lean. No condition.
-/
import Derived.Test.YtecjdppkpfpniaaGreatDoorRows
import Derived.Laws.Strings
import Derived.WideShapes
namespace Go.Proofs.YtecjdppkpfpniaaGreatDoor
/-- Is s in S? -/
def hasB (S : List ByteArray) (s : ByteArray) : Bool := S.any fun x => decide (x = s)
theorem hasB_iff {S : List ByteArray} {s : ByteArray} : hasB S s = true ↔ s ∈ S := by simp [hasB]
theorem hasB_yes {S : List ByteArray} {s : ByteArray} (h : s ∈ S) : hasB S s = true := hasB_iff.2 h
theorem hasB_no {S : List ByteArray} {s : ByteArray} (h : s ∉ S) : hasB S s = false := by
  cases e : hasB S s with
  | false => rfl
  | true => exact absurd (hasB_iff.1 e) h
theorem hasB_same {S T : List ByteArray} {s : ByteArray} (h : s ∈ S ↔ s ∈ T) : hasB S s = hasB T s := by
  rw [Bool.eq_iff_iff, hasB_iff, hasB_iff, h]
theorem bytes_ext {a b : ByteArray} (h : a.data.toList = b.data.toList) : a = b := by
  obtain ⟨⟨a⟩⟩ := a
  obtain ⟨⟨b⟩⟩ := b
  simp at h
  rw [h]
/-- As the walk compares a text with a written one. -/
theorem lit_eq (s : ByteArray) (l : List UInt8) : (s.toList == l) = decide (s = ⟨l.toArray⟩) := by
  rw [ByteArray.toList_eq, Bool.eq_iff_iff]
  simp only [beq_iff_eq, decide_eq_true_eq]
  constructor
  · intro h
    exact bytes_ext (by rw [h])
  · rintro rfl
    rfl
theorem two_eq (s t : ByteArray) : (s.toList == t.toList) = decide (s = t) := by
  rw [lit_eq, ByteArray.toList_eq]
end Go.Proofs.YtecjdppkpfpniaaGreatDoor
