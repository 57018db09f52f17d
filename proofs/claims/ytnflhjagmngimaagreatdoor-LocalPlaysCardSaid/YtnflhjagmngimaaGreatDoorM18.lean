/-
  Several texts in one, in their build order. What is heard, in plain words: a message of sorted names is valid; what a fresh crier tells first; the names that both have. Plain Lean over what Tell's walk shows. No condition but those of the lemmas.
-/
import Derived.Test.YtnflhjagmngimaaGreatDoorM17
namespace Go.Proofs.YtnflhjagmngimaaGreatDoor
set_option linter.unusedSimpArgs false
set_option linter.unusedVariables false
open Go.RowKit

theorem bless_lt : ∀ (x y : List UInt8), Op.bytesLess x y = decide (x < y)
  | [], [] => by simp [Op.bytesLess]
  | _ :: _, [] => by simp [Op.bytesLess]
  | [], _ :: _ => by simp [Op.bytesLess]
  | a :: x, b :: y => by
    rw [Op.bytesLess, bless_lt x y]
    simp only [List.cons_lt_cons_iff]
    by_cases h1 : a < b <;> by_cases h2 : a = b <;> by_cases h3 : x < y <;> simp [h1, h2, h3]
def leY (x y : List UInt8) : Bool := decide (x ≤ y)
theorem leY_trans (a b c : List UInt8) (h1 : leY a b = true) (h2 : leY b c = true) : leY a c = true := by
  simp only [leY, decide_eq_true_eq] at *; exact List.le_trans h1 h2
theorem leY_total (a b : List UInt8) : (leY a b || leY b a) = true := by
  simp only [leY, Bool.or_eq_true, decide_eq_true_eq]; exact List.le_total a b
theorem leY_anti {a b : List UInt8} (h1 : leY a b = true) (h2 : leY b a = true) : a = b := by
  simp only [leY, decide_eq_true_eq] at *; exact List.le_antisymm h1 h2
theorem bytes_sort (l : List ByteArray) : bytesOf (sortB l) = (bytesOf l).mergeSort leY := by
  unfold sortB bytesOf ofBytes
  rw [List.map_map]
  exact (List.map_congr_left (fun x _ => by simp)).trans (List.map_id _)
theorem bytes_inj {l l' : List ByteArray} (h : bytesOf l = bytesOf l') : l = l' := by rw [← of_bytes l, ← of_bytes l', h]
theorem sort_pair (l : List ByteArray) : (sortB l).Pairwise fun x y => leY x.data.toList y.data.toList = true := by
  have h := List.pairwise_mergeSort leY_trans leY_total (bytesOf l)
  rw [← bytes_sort] at h
  unfold bytesOf at h
  exact List.pairwise_map.1 h
theorem sort_eq {l l' : List ByteArray} (hp : l.Perm l') (hs : l.Pairwise fun x y => leY x.data.toList y.data.toList = true) : sortB l' = l := by
  refine List.Perm.eq_of_pairwise (le := fun x y : ByteArray => leY x.data.toList y.data.toList = true) (fun a b _ _ h1 h2 => ?_) (sort_pair l') hs ((sortB_perm l').trans hp.symm)
  have := leY_anti h1 h2
  exact ba_eq (by cases ha : a.data; cases hb : b.data; rw [ha, hb] at this; simp at this; rw [this])
theorem lt_of_le_ne {x y : List UInt8} (h : leY x y = true) (hne : x ≠ y) : Op.bytesLess x y = true := by
  rw [bless_lt, decide_eq_true_eq]
  simp only [leY, decide_eq_true_eq] at h
  rcases Decidable.em (x < y) with q | q
  · exact q
  · exact absurd (List.le_antisymm h (List.not_lt.1 q)) hne
/-- Names in order, each once, are names. -/
theorem names_sorted {l : List ByteArray} (hs : l.Pairwise fun x y => leY x.data.toList y.data.toList = true) (hn : l.Nodup) (hz : ∀ k ∈ l, k.size = 20) (h1 : 1 ≤ l.length) (h2 : l.length ≤ 20) : namesB l = true := by
  unfold namesB
  rw [decide_eq_true h1, decide_eq_true h2, Bool.and_true, Bool.and_true, List.all_eq_true]
  intro i hi
  have hil : i < l.length := List.mem_range.1 hi
  unfold nameAt
  rw [List.getElem?_eq_getElem hil]
  simp only
  rw [decide_eq_true (hz _ (List.getElem_mem hil)), Bool.true_and]
  cases i with
  | zero => rfl
  | succ j =>
    have hjl : j < l.length := by omega
    simp only
    rw [List.getElem?_eq_getElem hjl]
    simp only
    rw [ByteArray.toList_eq, ByteArray.toList_eq]
    refine lt_of_le_ne (List.pairwise_iff_getElem.1 hs j (j + 1) hjl hil (by omega)) (fun q => ?_)
    have hd := List.pairwise_iff_getElem.1 hn j (j + 1) hjl hil (by omega)
    exact hd (ba_eq (by cases ha : l[j].data; cases hb : l[j + 1].data; rw [ha, hb] at q; simp at q; rw [q]))
theorem names_pair {l : List ByteArray} (h : namesB l = true) : l.Pairwise fun x y => leY x.data.toList y.data.toList = true := by
  unfold namesB at h
  simp only [Bool.and_eq_true, List.all_eq_true, decide_eq_true_eq] at h
  have hstep : ∀ j (hj : j + 1 < l.length), leY l[j].data.toList l[j + 1].data.toList = true := by
    intro j hj
    have := h.1.1 (j + 1) (List.mem_range.2 hj)
    unfold nameAt at this
    rw [List.getElem?_eq_getElem hj] at this
    simp only at this
    rw [List.getElem?_eq_getElem (by omega : j < l.length)] at this
    simp only [Bool.and_eq_true] at this
    have h2 := this.2
    rw [ByteArray.toList_eq, ByteArray.toList_eq, bless_lt, decide_eq_true_eq] at h2
    simp only [leY, decide_eq_true_eq]
    exact List.le_of_lt h2
  rw [List.pairwise_iff_getElem]
  intro i j hi hj hij
  obtain ⟨d, rfl⟩ : ∃ d, j = i + 1 + d := ⟨j - (i + 1), by omega⟩
  clear hij
  induction d with
  | zero => exact hstep i hj
  | succ d ih => exact leY_trans _ _ _ (ih (by omega)) (hstep (i + 1 + d) hj)
theorem valid_sort {c : CrV} (ho : CrOk c) {l : List ByteArray} (hn : l.Nodup) (hz : ∀ k ∈ l, k.size = 20) (h1 : 1 ≤ l.length) (h2 : l.length ≤ 20) : validM ⟨c.port, sortB l, c.cookie⟩ = true := by
  have hp := ho.port
  have hq := sortB_perm l
  unfold validM
  simp only
  rw [decide_eq_true hp.1, decide_eq_true hp.2, ho.cook.1, names_sorted (sort_pair l) (hq.symm.nodup hn) (fun k hk => hz k (hq.mem_iff.1 hk)) (by rw [sortB_len]; exact h1) (by rw [sortB_len]; exact h2)]
  rfl
end Go.Proofs.YtnflhjagmngimaaGreatDoor
