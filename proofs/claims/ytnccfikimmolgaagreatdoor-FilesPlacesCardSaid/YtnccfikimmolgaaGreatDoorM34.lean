/-
  Several texts in one, in their build order. Size of package files; bounds of spans; the law's comparison of spans; Small. Conditions: as they stand.
-/
import Derived.Test.YtnccfikimmolgaaGreatDoorM33
namespace Go.Proofs.YtnccfikimmolgaaGreatDoor
set_option linter.unusedSimpArgs false
set_option linter.unusedVariables false
open Go.RowKit Go.Shelf

def cntOf (S : List SpanV) : Int := (S.map (·.cnt)).sum
theorem cnt_next {S : List SpanV} {k : Nat} (h : k < S.length) : cntOf (S.take (k + 1)) = cntOf (S.take k) + S[k].cnt := by
  unfold cntOf
  rw [List.take_add_one, List.getElem?_eq_getElem h]
  simp only [Option.toList, List.map_append, List.map_cons, List.map_nil, List.sum_append, List.sum_cons, List.sum_nil]
  omega
theorem cnt_nonneg {S : List SpanV} (h : ∀ s ∈ S, 0 ≤ s.cnt) : 0 ≤ cntOf S := by
  induction S with
  | nil => simp [cntOf]
  | cons s r ih =>
    have h1 := ih (fun t ht => h t (.tail _ ht))
    have h2 := h s (.head _)
    simp only [cntOf, List.map_cons, List.sum_cons] at *
    omega
theorem cnt_app (S T : List SpanV) : cntOf (S ++ T) = cntOf S + cntOf T := by simp [cntOf]
theorem cnt_take {S : List SpanV} (h : ∀ s ∈ S, 0 ≤ s.cnt) (k : Nat) : 0 ≤ cntOf (S.take k) ∧ cntOf (S.take k) ≤ cntOf S := by
  have h1 := cnt_nonneg (S := S.take k) (fun s hs => h s (List.mem_of_mem_take hs))
  have h2 := cnt_nonneg (S := S.drop k) (fun s hs => h s (List.mem_of_mem_drop hs))
  have h3 := cnt_app (S.take k) (S.drop k)
  rw [List.take_append_drop] at h3
  omega
/-- The bytes of a piece's spans, the old way. -/
theorem rowGo_cnt (lo hi : Int) : ∀ (l : List FileV) (b : Int) (k : Nat), (∀ f ∈ l, 0 ≤ f.len) → (∀ s ∈ rowGo lo hi b k l, 1 ≤ s.cnt) ∧ cntOf (rowGo lo hi b k l) = max 0 (min hi (b + sumOf l) - max lo b)
  | [], b, k, _ => by simp [rowGo, cntOf, sumOf]; omega
  | f :: l, b, k, h => by
    have hf := h f (.head _)
    obtain ⟨h1, h2⟩ := rowGo_cnt lo hi l (b + f.len) (k + 1) (fun g hg => h g (.tail _ hg))
    have hs := (sum_mono l (fun g hg => h g (.tail _ hg)) 0).2
    simp only [List.take_zero] at hs
    have e : sumOf (f :: l) = f.len + sumOf l := by simp [sumOf]
    have e0 : sumOf ([] : List FileV) = 0 := by simp [sumOf]
    rw [rowGo, cnt_app, h2, e]
    refine ⟨fun s hs => ?_, ?_⟩
    · rcases List.mem_append.1 hs with hs | hs
      · split at hs
        · simp at hs
          subst hs
          simp only
          omega
        · simp at hs
      · exact h1 s hs
    · split
      · simp [cntOf]
        omega
      · simp [cntOf]
        omega
theorem apGo_cnt {piece : Int} (hp : 0 < piece) : ∀ (l : List FileV) (i : Int) (k : Nat), 0 ≤ i → (∀ f ∈ l, 0 ≤ f.len) → (∀ s ∈ apGo piece i k l, 1 ≤ s.cnt) ∧ cntOf (apGo piece i k l) ≤ sumOf l ∧ cntOf (apGo piece i k l) ≤ piece ∧ (i < countsOf l piece → 1 ≤ cntOf (apGo piece i k l))
  | [], i, k, h0, _ => by simp [apGo, cntOf, sumOf, countsOf]; omega
  | f :: l, i, k, h0, h => by
    have hf := h f (.head _)
    have e : sumOf (f :: l) = f.len + sumOf l := by simp [sumOf]
    have ec : countsOf (f :: l) piece = countOf f piece + countsOf l piece := by simp [countsOf]
    have hs := (sum_mono l (fun g hg => h g (.tail _ hg)) 0).2
    have e0 : sumOf ([] : List FileV) = 0 := by simp [sumOf]
    simp only [List.take_zero] at hs
    rw [apGo]
    split
    · next hlt =>
      have hip : i * piece < f.len := by
        unfold countOf at hlt
        split at hlt
        · have h1 : i + 1 ≤ (f.len + piece - 1) / piece := by omega
          have h2 := (Int.le_ediv_iff_mul_le hp).1 h1
          rw [Int.add_mul] at h2
          omega
        · omega
      have hi0 := Int.mul_nonneg h0 (show 0 ≤ piece by omega)
      refine ⟨fun s hs => ?_, ?_, ?_, fun _ => ?_⟩
      · simp at hs
        subst hs
        simp only
        omega
      · simp [cntOf]; omega
      · simp [cntOf]; omega
      · simp [cntOf]; omega
    · next hge =>
      have h0' := count_len hf hp
      obtain ⟨h1, h2, h3, h4⟩ := apGo_cnt hp l (i - countOf f piece) (k + 1) (by omega) (fun g hg => h g (.tail _ hg))
      exact ⟨h1, by omega, h3, fun hi => h4 (by omega)⟩
theorem res_bounds {l : List FileV} {piece i : Int} {new : Bool} : (∀ s ∈ spansRes l piece new i, 0 ≤ s.cnt) ∧ cntOf (spansRes l piece new i) ≤ 65536 := by
  unfold spansRes
  split
  · next h =>
    unfold spansErr at h
    split at h
    · next hb =>
      split at h
      · cases h
      · next hi =>
        obtain ⟨hv, hp⟩ := way_ok hb
        obtain ⟨v1, v2, v3, v4⟩ := valid_facts hv
        obtain ⟨p1, p2⟩ := piece_range hp
        have hs := (sum_mono l v3 0).2
        have e0 : sumOf ([] : List FileV) = 0 := by simp [sumOf]
        simp only [List.take_zero] at hs
        unfold spansOf
        cases new with
        | true =>
          obtain ⟨h1, h2, -⟩ := apGo_cnt (piece := piece) (by omega) l i 0 (by omega) v3
          exact ⟨fun s hs => by have := h1 s hs; omega, by show cntOf (apGo piece i 0 l) ≤ _; omega⟩
        | false =>
          obtain ⟨h1, h2⟩ := rowGo_cnt (i * piece) ((i + 1) * piece) l 0 0 v3
          have : (i + 1) * piece = i * piece + piece := by rw [Int.add_mul, Int.one_mul]
          exact ⟨fun s hs => by have := h1 s hs; omega, by show cntOf (rowGo _ _ 0 0 l) ≤ _; omega⟩
    · next hb => exact absurd h hb
  · simp [cntOf]

theorem ret_pair {x y e : Int} (h : x = y) : Ending.returned (.tuple #[.int .i64 x, .int .i64 e]) = .returned (.tuple #[.int .i64 y, .int .i64 e]) := by rw [h]
end Go.Proofs.YtnccfikimmolgaaGreatDoor
