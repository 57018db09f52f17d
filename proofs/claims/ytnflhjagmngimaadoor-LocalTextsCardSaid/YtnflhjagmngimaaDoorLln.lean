/-
  How many line ends a text has: counted from place to place, and by its lines. Plain Lean, no program. No condition.
-/
import Derived.Test.YtnflhjagmngimaaDoorLtR
namespace Go.Proofs.YtnflhjagmngimaaDoor
set_option linter.unusedSimpArgs false
set_option linter.unusedVariables false

/-- How many places hold 13 and then 10. -/
def pairs : List UInt8 → Nat
  | [] => 0
  | [_] => 0
  | a :: b :: r => (if a = 13 ∧ b = 10 then 1 else 0) + pairs (b :: r)
theorem pairs_snoc (b : UInt8) : ∀ (l : List UInt8) (a : UInt8), pairs (l ++ [a, b]) = pairs (l ++ [a]) + (if a = 13 ∧ b = 10 then 1 else 0)
  | [], a => by simp [pairs]
  | [x], a => by
    simp only [List.cons_append, List.nil_append, pairs]
    omega
  | x :: y :: l, a => by
    have ih := pairs_snoc b (y :: l) a
    simp only [List.cons_append, pairs] at ih ⊢
    omega
theorem pairs_free : ∀ (l : List UInt8), (∀ j, Lib.occAt l [13, 10] j = false) → pairs l = 0
  | [], _ => rfl
  | [_], _ => rfl
  | a :: b :: r, h => by
    have h0 := h 0
    have hn : ¬ (a = 13 ∧ b = 10) := by
      rintro ⟨rfl, rfl⟩
      simp [Lib.occAt] at h0
    rw [pairs, if_neg hn, pairs_free (b :: r) (fun j => by
      have := h (j + 1)
      unfold Lib.occAt at this ⊢
      rwa [List.drop_succ_cons] at this)]
theorem pairs_hit : ∀ (l r : List UInt8), (∀ j, j < l.length → Lib.occAt (l ++ [13, 10] ++ r) [13, 10] j = false) → pairs (l ++ [13, 10] ++ r) = 1 + pairs r
  | [], r, _ => by
    cases r with
    | nil => rfl
    | cons c r => simp [pairs]
  | [a], r, h => by
    have h0 := h 0 (by simp)
    have ih := pairs_hit [] r (fun j hj => by simp at hj)
    simp only [List.nil_append, List.cons_append] at ih ⊢
    rw [pairs, ih, if_neg (fun q => by have := q.2; simp at this)]
    omega
  | a :: b :: l, r, h => by
    have h0 := h 0 (by simp)
    have hn : ¬ (a = 13 ∧ b = 10) := by
      rintro ⟨rfl, rfl⟩
      simp [Lib.occAt] at h0
    have ih := pairs_hit (b :: l) r (fun j hj => by
      have := h (j + 1) (by simp at hj ⊢; omega)
      unfold Lib.occAt at this ⊢
      simpa using this)
    simp only [List.cons_append] at ih ⊢
    rw [pairs, if_neg hn, ih]
    omega
theorem lines_pairs : ∀ (n : Nat) (s : List UInt8), s.length ≤ n → (linesC s).length = 1 + pairs s := by
  intro n
  induction n with
  | zero =>
    intro s hs
    obtain rfl : s = [] := List.eq_nil_of_length_eq_zero (by omega)
    rw [lines_miss (by decide)]
    rfl
  | succ n ih =>
    intro s hs
    rcases Lib.index_spec s [13, 10] with ⟨h, hx⟩ | ⟨i, h, hi, ho, hf⟩
    · rw [lines_miss h, pairs_free s (fun j => by
        by_cases q : j ≤ s.length
        · exact hx j q
        · unfold Lib.occAt
          rw [List.drop_eq_nil_of_le (by omega)]
          rfl)]
      rfl
    · obtain ⟨e, hl⟩ := occ_form ho
      rw [lines_hit h, List.length_cons, ih _ (by rw [List.length_drop]; omega)]
      have hti : (s.take i).length = i := by rw [List.length_take]; omega
      have := pairs_hit (s.take i) (s.drop (i + 2)) (fun j hj => by rw [← e]; exact hf j (by omega))
      rw [← e] at this
      omega
theorem pairs_next {l : List UInt8} {j : Nat} (h : j + 1 < l.length) : pairs (l.take (j + 2)) = pairs (l.take (j + 1)) + (if l[j] = 13 ∧ l[j + 1] = 10 then 1 else 0) := by
  have e1 : l.take (j + 1) = l.take j ++ [l[j]] := by rw [List.take_add_one, List.getElem?_eq_getElem (by omega)]; rfl
  have e2 : l.take (j + 2) = l.take j ++ [l[j], l[j + 1]] := by
    have h3 : l.take (j + 1 + 1) = l.take (j + 1) ++ l[j + 1]?.toList := List.take_add_one
    rw [show j + 2 = j + 1 + 1 from rfl, h3, e1, List.getElem?_eq_getElem h, List.append_assoc]
    rfl
  rw [e1, e2, pairs_snoc]
end Go.Proofs.YtnflhjagmngimaaDoor
