/-
  Several texts in one, in their build order. Where a byte of a file lies among the pieces, and which pieces hold something of a file; told twice, and both are one. Plain Lean, no program. No condition.
-/
import Derived.Test.YtnccfikimmolgaaGreatDoorM34
import Derived.Lib.SlicesCompact
namespace Go.Proofs.YtnccfikimmolgaaGreatDoor
set_option linter.unusedSimpArgs false
set_option linter.unusedVariables false

/-- The place in a piece of the byte 'at' of the file k, by the piece's spans: n bytes are ahead of them. -/
def findIn (k : Int) (at' : Int) : List SpanV → Int → Option Int
  | [], _ => none
  | s :: r, n => if s.file = k ∧ s.frm ≤ at' ∧ at' < s.frm + s.cnt then some (n + at' - s.frm) else findIn k at' r (n + s.cnt)
/-- The first piece that has it. -/
def findAll (k : Int) (at' : Int) : List (List SpanV) → Int → Option (Int × Int)
  | [], _ => none
  | p :: r, i => match findIn k at' p 0 with | some b => some (i, b) | none => findAll k at' r (i + 1)
def holdsB (ks : List Int) (S : List SpanV) : Bool := S.any fun s => ks.any fun k => decide (s.file = k)

/-- The piece and the byte of a byte, told at once. -/
def atI (l : List FileV) (piece : Int) (new : Bool) (k : Nat) (at' : Int) : Int := if new then countsOf (l.take k) piece + at' / piece else (sumOf (l.take k) + at') / piece
def atB (l : List FileV) (piece : Int) (new : Bool) (k : Nat) (at' : Int) : Int := if new then at' % piece else (sumOf (l.take k) + at') % piece

theorem findIn_app (k at' : Int) : ∀ (S T : List SpanV) (n : Int), findIn k at' (S ++ T) n = match findIn k at' S n with | some b => some b | none => findIn k at' T (n + cntOf S)
  | [], T, n => by simp [findIn, cntOf]
  | s :: S, T, n => by
    simp only [List.cons_append, findIn]
    by_cases h : s.file = k ∧ s.frm ≤ at' ∧ at' < s.frm + s.cnt
    · rw [if_pos h, if_pos h]
    · rw [if_neg h, if_neg h, findIn_app k at' S T (n + s.cnt)]
      have e : n + s.cnt + cntOf S = n + cntOf (s :: S) := by simp [cntOf]; omega
      rw [e]
theorem findIn_far {k at' : Int} : ∀ {S : List SpanV} {n : Int}, (∀ s ∈ S, s.file ≠ k) → findIn k at' S n = none
  | [], n, _ => rfl
  | s :: S, n, h => by
    rw [findIn, if_neg (fun x => h s (by simp) x.1)]
    exact findIn_far (fun t ht => h t (by simp [ht]))
theorem rowGo_file (lo hi : Int) : ∀ (l : List FileV) (b : Int) (k : Nat), ∀ s ∈ rowGo lo hi b k l, ∃ j : Nat, s.file = j ∧ k ≤ j ∧ j < k + l.length
  | [], b, k, s, h => by simp [rowGo] at h
  | f :: l, b, k, s, h => by
    rw [rowGo, List.mem_append] at h
    rcases h with h | h
    · split at h
      · simp at h
        subst h
        exact ⟨k, rfl, by omega, by simp⟩
      · simp at h
    · obtain ⟨j, h1, h2, h3⟩ := rowGo_file lo hi l (b + f.len) (k + 1) s h
      exact ⟨j, h1, by omega, by simp; omega⟩
theorem rowGo_find (lo hi : Int) : ∀ (l : List FileV) (b : Int) (k j : Nat) (at' n : Int), (∀ f ∈ l, 0 ≤ f.len) → (hj : j < l.length) → 0 ≤ at' → at' < l[j].len → n = max 0 (min hi b - lo) →
    findIn ((k + j : Nat) : Int) at' (rowGo lo hi b k l) n = if lo ≤ b + sumOf (l.take j) + at' ∧ b + sumOf (l.take j) + at' < hi then some (b + sumOf (l.take j) + at' - lo) else none
  | f :: l, b, k, 0, at', n, hf, hj, h0, h1, hn => by
    have hlen := hf f (by simp)
    simp only [List.getElem_cons_zero] at h1
    rw [rowGo, findIn_app]
    have hfar : ∀ m, findIn ((k + 0 : Nat) : Int) at' (rowGo lo hi (b + f.len) (k + 1) l) m = none := fun m => findIn_far (fun s hs => by
      obtain ⟨i, e, h2, -⟩ := rowGo_file lo hi l (b + f.len) (k + 1) s hs
      omega)
    simp only [List.take_zero, sumOf, List.map_nil, List.sum_nil, Int.add_zero]
    by_cases hc : max lo b < min hi (b + f.len)
    · rw [if_pos hc]
      simp only [findIn]
      by_cases hq : lo ≤ b + at' ∧ b + at' < hi
      · rw [if_pos ⟨rfl, by omega, by omega⟩, if_pos hq]
        simp only [Option.some.injEq]
        omega
      · rw [if_neg (fun x => hq ⟨by omega, by omega⟩), if_neg hq]
        exact hfar _
    · rw [if_neg hc, if_neg (by omega)]
      simp only [findIn]
      exact hfar _
  | f :: l, b, k, j + 1, at', n, hf, hj, h0, h1, hn => by
    have hlen := hf f (by simp)
    simp only [List.getElem_cons_succ] at h1
    rw [rowGo, findIn_app]
    have hcnt : n + cntOf (if max lo b < min hi (b + f.len) then [⟨k, max lo b - b, min hi (b + f.len) - max lo b⟩] else []) = max 0 (min hi (b + f.len) - lo) := by
      split
      · simp [cntOf]; omega
      · simp [cntOf]; omega
    have ih := rowGo_find lo hi l (b + f.len) (k + 1) j at' _ (fun g hg => hf g (by simp [hg])) (by simpa using hj) h0 h1 hcnt.symm.symm
    have e1 : ((k + 1 + j : Nat) : Int) = ((k + (j + 1) : Nat) : Int) := by omega
    rw [e1] at ih
    have e2 : b + f.len + sumOf (l.take j) = b + sumOf ((f :: l).take (j + 1)) := by simp [sumOf]; omega
    rw [e2] at ih
    rw [← ih]
    split
    · rename_i x hx
      exfalso
      split at hx
      · simp only [findIn] at hx
        rw [if_neg (fun q => by have := q.1; omega)] at hx
        cases hx
      · cases hx
    · rfl
theorem count_nonneg {f : FileV} {piece : Int} (hp : 0 < piece) (hf : 0 ≤ f.len) : 0 ≤ countOf f piece := by
  unfold countOf
  split
  · exact Int.ediv_nonneg (by omega) (by omega)
  · omega
theorem counts_nonneg {piece : Int} (hp : 0 < piece) : ∀ {l : List FileV}, (∀ f ∈ l, 0 ≤ f.len) → 0 ≤ countsOf l piece
  | [], _ => by simp [countsOf]
  | f :: l, h => by
    have h1 := counts_nonneg hp (l := l) (fun g hg => h g (by simp [hg]))
    have h2 := count_nonneg hp (h f (by simp))
    simp only [countsOf, List.map_cons, List.sum_cons] at *
    omega
theorem apGo_file {piece : Int} : ∀ (l : List FileV) (i : Int) (k : Nat), ∀ s ∈ apGo piece i k l, ∃ j : Nat, s.file = j ∧ k ≤ j ∧ j < k + l.length
  | [], i, k, s, h => by simp [apGo] at h
  | f :: l, i, k, s, h => by
    rw [apGo] at h
    split at h
    · simp at h
      subst h
      exact ⟨k, rfl, by omega, by simp⟩
    · obtain ⟨j, h1, h2, h3⟩ := apGo_file l (i - countOf f piece) (k + 1) s h
      exact ⟨j, h1, by omega, by simp; omega⟩
theorem apGo_find {piece : Int} (hp : 0 < piece) : ∀ (l : List FileV) (i : Int) (k j : Nat) (at' : Int), (∀ f ∈ l, 0 ≤ f.len) → (hj : j < l.length) → 0 ≤ i → 0 ≤ at' → at' < l[j].len → l[j].pad = false →
    findIn ((k + j : Nat) : Int) at' (apGo piece i k l) 0 = if i = countsOf (l.take j) piece + at' / piece then some (at' % piece) else none
  | f :: l, i, k, 0, at', hf, hj, hi, h0, h1, hpad => by
    simp only [List.getElem_cons_zero] at h1 hpad
    have hc : countOf f piece = (f.len + piece - 1) / piece := by simp [countOf, hasN, hpad]; intro q; omega
    have hq0 := Int.mul_ediv_add_emod at' piece
    have hq1 := Int.emod_nonneg at' (show piece ≠ 0 by omega)
    have hq2 := Int.emod_lt_of_pos at' hp
    have hlt : at' / piece < countOf f piece := by
      rw [hc]
      have : at' / piece * piece ≤ f.len - 1 := by rw [Int.mul_comm]; omega
      have h3 : at' / piece + 1 ≤ (f.len + piece - 1) / piece := by
        apply Int.le_ediv_of_mul_le hp
        rw [Int.add_mul, Int.one_mul]
        omega
      omega
    simp only [List.take_zero, countsOf, List.map_nil, List.sum_nil, Int.zero_add]
    rw [apGo]
    by_cases h2 : i < countOf f piece
    · rw [if_pos h2]
      simp only [findIn]
      by_cases h3 : i = at' / piece
      · subst h3
        have e : at' / piece * piece = piece * (at' / piece) := Int.mul_comm _ _
        rw [if_pos ⟨rfl, by omega, by omega⟩, if_pos rfl]
        simp only [Option.some.injEq]
        omega
      · rw [if_neg (fun x => h3 ?_), if_neg h3]
        obtain ⟨-, a1, a2⟩ := x
        have b1 := Int.le_ediv_of_mul_le hp a1
        have b2 : at' / piece < i + 1 := Int.ediv_lt_of_lt_mul hp (by rw [Int.add_mul]; omega)
        omega
    · rw [if_neg h2, if_neg (by omega)]
      refine findIn_far (fun s hs => ?_)
      obtain ⟨m, e, h4, -⟩ := apGo_file l (i - countOf f piece) (k + 1) s hs
      omega
  | f :: l, i, k, j + 1, at', hf, hj, hi, h0, h1, hpad => by
    simp only [List.getElem_cons_succ] at h1 hpad
    have e1 : ((k + 1 + j : Nat) : Int) = ((k + (j + 1) : Nat) : Int) := by omega
    have e2 : countsOf ((f :: l).take (j + 1)) piece = countOf f piece + countsOf (l.take j) piece := by simp [countsOf]
    have hdiv : 0 ≤ at' / piece := Int.ediv_nonneg h0 (by omega)
    have hcn : 0 ≤ countsOf (l.take j) piece := counts_nonneg hp (fun g hg => hf g (by simp [List.mem_of_mem_take hg]))
    rw [apGo, e2]
    by_cases h2 : i < countOf f piece
    · rw [if_pos h2]
      simp only [findIn]
      rw [if_neg (fun q => by have := q.1; omega), if_neg (by omega)]
    · rw [if_neg h2]
      have ih := apGo_find hp l (i - countOf f piece) (k + 1) j at' (fun g hg => hf g (by simp [hg])) (by simpa using hj) (by omega) h0 h1 hpad
      rw [e1] at ih
      rw [ih]
      by_cases h3 : i - countOf f piece = countsOf (l.take j) piece + at' / piece
      · rw [if_pos h3, if_pos (by omega)]
      · rw [if_neg h3, if_neg (by omega)]
theorem pos_eq {pos piece i : Int} (hp : 0 < piece) : (i * piece ≤ pos ∧ pos < (i + 1) * piece) ↔ i = pos / piece := by
  constructor
  · rintro ⟨a, b⟩
    have b1 := Int.le_ediv_of_mul_le hp a
    have b2 : pos / piece < i + 1 := Int.ediv_lt_of_lt_mul hp b
    omega
  · rintro rfl
    have h1 := Int.mul_ediv_add_emod pos piece
    have h2 := Int.emod_nonneg pos (show piece ≠ 0 by omega)
    have h3 := Int.emod_lt_of_pos pos hp
    rw [Int.add_mul, Int.mul_comm]
    omega
theorem span_find {l : List FileV} {piece : Int} {new : Bool} {k : Nat} {at' : Int} (hp : 0 < piece) (hf : ∀ f ∈ l, 0 ≤ f.len) (hk : k < l.length) (h0 : 0 ≤ at') (h1 : at' < l[k].len) (hn : (new && l[k].pad) = false) (i : Int) (hi : 0 ≤ i) :
    findIn (k : Int) at' (spansOf l piece new i) 0 = if i = atI l piece new k at' then some (atB l piece new k at') else none := by
  cases new with
  | true =>
    have hpad : l[k].pad = false := by simpa using hn
    have := apGo_find hp l i 0 k at' hf hk hi h0 h1 hpad
    rw [Nat.zero_add] at this
    exact this
  | false =>
    have h := rowGo_find (i * piece) ((i + 1) * piece) l 0 0 k at' 0 hf hk h0 h1 (by have := Int.mul_nonneg hi (by omega : 0 ≤ piece); have := Int.mul_nonneg (by omega : 0 ≤ i + 1) (by omega : 0 ≤ piece); omega)
    rw [Nat.zero_add] at h
    have hq := pos_eq (pos := sumOf (l.take k) + at') (i := i) hp
    simp only [spansOf, atI, atB, Bool.false_eq_true, if_false]
    rw [h, Int.zero_add]
    by_cases e : i = (sumOf (l.take k) + at') / piece
    · rw [if_pos (hq.2 e), if_pos e]
      have h1 := Int.mul_ediv_add_emod (sumOf (l.take k) + at') piece
      rw [e, Int.mul_comm]
      simp only [Option.some.injEq]
      omega
    · rw [if_neg (fun x => e (hq.1 x)), if_neg e]
theorem sum_split {l : List FileV} {k : Nat} (hk : k < l.length) (hf : ∀ f ∈ l, 0 ≤ f.len) : 0 ≤ sumOf (l.take k) ∧ sumOf (l.take k) + l[k].len ≤ sumOf l := by
  have h1 : ∀ (m : List FileV), (∀ f ∈ m, 0 ≤ f.len) → 0 ≤ sumOf m := by
    intro m
    induction m with
    | nil => intro _; simp [sumOf]
    | cons f m ih =>
      intro h
      have a := ih (fun g hg => h g (by simp [hg]))
      have b := h f (by simp)
      simp only [sumOf, List.map_cons, List.sum_cons] at *
      omega
  have e : sumOf l = sumOf (l.take k) + l[k].len + sumOf (l.drop (k + 1)) := by
    conv => lhs; rw [← List.take_append_drop k l, List.drop_eq_getElem_cons hk]
    simp only [sumOf, List.map_append, List.map_cons, List.sum_append, List.sum_cons]
    omega
  have h2 := h1 (l.take k) (fun f hh => hf f (List.mem_of_mem_take hh))
  have h3 := h1 (l.drop (k + 1)) (fun f hh => hf f (List.mem_of_mem_drop hh))
  omega
theorem counts_split {l : List FileV} {k : Nat} {piece : Int} (hp : 0 < piece) (hk : k < l.length) (hf : ∀ f ∈ l, 0 ≤ f.len) : 0 ≤ countsOf (l.take k) piece ∧ countsOf (l.take k) piece + countOf l[k] piece ≤ countsOf l piece := by
  have e : countsOf l piece = countsOf (l.take k) piece + countOf l[k] piece + countsOf (l.drop (k + 1)) piece := by
    conv => lhs; rw [← List.take_append_drop k l, List.drop_eq_getElem_cons hk]
    simp only [countsOf, List.map_append, List.map_cons, List.sum_append, List.sum_cons]
    omega
  have h2 := counts_nonneg hp (l := l.take k) (fun f hh => hf f (List.mem_of_mem_take hh))
  have h3 := counts_nonneg hp (l := l.drop (k + 1)) (fun f hh => hf f (List.mem_of_mem_drop hh))
  omega
/-- How many pieces a file of the new way has. -/
theorem count_last {f : FileV} {piece : Int} (hp : 0 < piece) (h : hasN f = true) (h0 : 0 ≤ f.len) : countOf f piece = (f.len - 1) / piece + 1 := by
  have hl : 0 < f.len := by simp [hasN] at h; omega
  rw [countOf, if_pos h]
  have e : f.len + piece - 1 = (f.len - 1) + 1 * piece := by omega
  rw [e, Int.add_mul_ediv_right _ _ (by omega)]
theorem div_le {a b piece : Int} (hp : 0 < piece) (h : a ≤ b) : a / piece ≤ b / piece := Int.ediv_le_ediv hp h
theorem atI_bd {l : List FileV} {piece : Int} {new : Bool} {k : Nat} {at' : Int} (hp : 0 < piece) (hf : ∀ f ∈ l, 0 ≤ f.len) (hk : k < l.length) (h0 : 0 ≤ at') (h1 : at' < l[k].len) (hn : (new && l[k].pad) = false) : 0 ≤ atI l piece new k at' ∧ atI l piece new k at' < piecesOf l piece new := by
  have h2 := hf _ (List.getElem_mem hk)
  cases new with
  | true =>
    have hpad : l[k].pad = false := by simpa using hn
    have hh : hasN l[k] = true := by simp [hasN, hpad]; omega
    have h3 := count_last hp hh h2
    have h4 := counts_split hp hk hf
    have h5 := div_le hp (show at' ≤ l[k].len - 1 by omega)
    have h6 : 0 ≤ at' / piece := Int.ediv_nonneg h0 (by omega)
    simp only [atI, piecesOf, if_true]
    omega
  | false =>
    have h3 := sum_split hk hf
    have h5 := div_le hp (show sumOf (l.take k) + at' ≤ sumOf l - 1 by omega)
    have h6 : 0 ≤ (sumOf (l.take k) + at') / piece := Int.ediv_nonneg (by omega) (by omega)
    have e : sumOf l + piece - 1 = (sumOf l - 1) + 1 * piece := by omega
    simp only [atI, piecesOf, Bool.false_eq_true, if_false]
    rw [e, Int.add_mul_ediv_right _ _ (by omega)]
    omega
theorem findAll_one {k at' I B : Int} : ∀ (L : List (List SpanV)) (i : Int), (∀ (j : Nat) (p : List SpanV), L[j]? = some p → findIn k at' p 0 = if i + j = I then some B else none) → i ≤ I → I < i + L.length → findAll k at' L i = some (I, B)
  | [], i, h, h1, h2 => by simp at h2; omega
  | p :: L, i, h, h1, h2 => by
    have h0 := h 0 p rfl
    rw [findAll, h0]
    by_cases e : i = I
    · subst e
      simp
    · rw [if_neg (by omega)]
      refine findAll_one L (i + 1) (fun j q hq => ?_) (by omega) (by simp at h2; omega)
      have := h (j + 1) q (by simpa using hq)
      rw [this]
      have e2 : i + ((j + 1 : Nat) : Int) = i + 1 + (j : Int) := by omega
      rw [e2]
theorem find_cut {l : List FileV} {piece : Int} {new : Bool} {k : Nat} {at' : Int} (hp : 0 < piece) (hf : ∀ f ∈ l, 0 ≤ f.len) (hk : k < l.length) (h0 : 0 ≤ at') (h1 : at' < l[k].len) (hn : (new && l[k].pad) = false) :
    findAll (k : Int) at' (cutOf l piece new) 0 = some (atI l piece new k at', atB l piece new k at') := by
  have hb := atI_bd hp hf hk h0 h1 hn
  rw [cut_is new hp hf]
  refine findAll_one _ 0 (fun j p hj => ?_) hb.1 (by simp; omega)
  rw [List.getElem?_map] at hj
  obtain ⟨m, hm, rfl⟩ := Option.map_eq_some_iff.1 hj
  have := List.getElem?_eq_some_iff.1 hm
  obtain ⟨hlt, he⟩ := this
  simp at hlt he
  subst he
  rw [span_find hp hf hk h0 h1 hn j (by omega), Int.zero_add]

/-! ### which pieces hold something of a file -/
def hasW (new : Bool) (f : FileV) : Bool := decide (0 < f.len) && !(new && f.pad)
theorem holds_app (ks : List Int) (S T : List SpanV) : holdsB ks (S ++ T) = (holdsB ks S || holdsB ks T) := by simp [holdsB]
theorem holds_far {k : Int} {S : List SpanV} (h : ∀ s ∈ S, s.file ≠ k) : holdsB [k] S = false := by
  rw [Bool.eq_false_iff]
  intro q
  simp only [holdsB, List.any_eq_true, List.any_cons, List.any_nil, Bool.or_false, decide_eq_true_eq] at q
  obtain ⟨s, hs, e⟩ := q
  exact h s hs e
theorem rowGo_holds (lo hi : Int) : ∀ (l : List FileV) (b : Int) (k j : Nat) (hj : j < l.length), holdsB [((k + j : Nat) : Int)] (rowGo lo hi b k l) = decide (max lo (b + sumOf (l.take j)) < min hi (b + sumOf (l.take j) + l[j].len))
  | f :: l, b, k, 0, hj => by
    rw [rowGo, holds_app]
    have hfar : holdsB [((k + 0 : Nat) : Int)] (rowGo lo hi (b + f.len) (k + 1) l) = false := holds_far (fun s hs => by
      obtain ⟨i, e, h2, -⟩ := rowGo_file lo hi l (b + f.len) (k + 1) s hs
      omega)
    rw [hfar, Bool.or_false]
    simp only [List.take_zero, sumOf, List.map_nil, List.sum_nil, Int.add_zero, List.getElem_cons_zero]
    by_cases h : max lo b < min hi (b + f.len)
    · rw [if_pos h, decide_eq_true h]
      simp [holdsB]
    · rw [if_neg h, decide_eq_false h]
      rfl
  | f :: l, b, k, j + 1, hj => by
    have ih := rowGo_holds lo hi l (b + f.len) (k + 1) j (by simpa using hj)
    have e1 : ((k + 1 + j : Nat) : Int) = ((k + (j + 1) : Nat) : Int) := by omega
    have e2 : b + f.len + sumOf (l.take j) = b + sumOf ((f :: l).take (j + 1)) := by simp [sumOf]; omega
    rw [e1, e2] at ih
    rw [rowGo, holds_app, ih]
    have hfar : holdsB [((k + (j + 1) : Nat) : Int)] (if max lo b < min hi (b + f.len) then [⟨k, max lo b - b, min hi (b + f.len) - max lo b⟩] else []) = false := holds_far (fun s hs => by
      split at hs
      · simp at hs
        subst hs
        simp only
        omega
      · simp at hs)
    rw [hfar, Bool.false_or]
    simp only [List.getElem_cons_succ]
theorem apGo_holds {piece : Int} (hp : 0 < piece) : ∀ (l : List FileV) (i : Int) (k j : Nat) (hf : ∀ f ∈ l, 0 ≤ f.len) (hj : j < l.length), 0 ≤ i → holdsB [((k + j : Nat) : Int)] (apGo piece i k l) = decide (countsOf (l.take j) piece ≤ i ∧ i < countsOf (l.take j) piece + countOf l[j] piece)
  | f :: l, i, k, 0, hf, hj, hi => by
    simp only [List.take_zero, countsOf, List.map_nil, List.sum_nil, Int.zero_add, List.getElem_cons_zero]
    rw [apGo]
    by_cases h : i < countOf f piece
    · rw [if_pos h, decide_eq_true (by omega)]
      simp [holdsB]
    · rw [if_neg h, decide_eq_false (by omega)]
      refine holds_far (fun s hs => ?_)
      obtain ⟨m, e, h4, -⟩ := apGo_file l (i - countOf f piece) (k + 1) s hs
      omega
  | f :: l, i, k, j + 1, hf, hj, hi => by
    have e1 : ((k + 1 + j : Nat) : Int) = ((k + (j + 1) : Nat) : Int) := by omega
    have e2 : countsOf ((f :: l).take (j + 1)) piece = countOf f piece + countsOf (l.take j) piece := by simp [countsOf]
    have hcn : 0 ≤ countsOf (l.take j) piece := counts_nonneg hp (fun g hg => hf g (by simp [List.mem_of_mem_take hg]))
    rw [apGo, e2]
    simp only [List.getElem_cons_succ]
    by_cases h2 : i < countOf f piece
    · rw [if_pos h2, decide_eq_false (by omega)]
      exact holds_far (fun s hs => by simp at hs; subst hs; simp only; omega)
    · rw [if_neg h2]
      have ih := apGo_holds hp l (i - countOf f piece) (k + 1) j (fun g hg => hf g (by simp [hg])) (by simpa using hj) (by omega)
      rw [e1] at ih
      rw [ih]
      congr 1
      simp only [eq_iff_iff]
      omega
/-- The first of a file's pieces, and how many there are. -/
def runF (l : List FileV) (piece : Int) (new : Bool) (k : Nat) (f : FileV) : Int := if hasW new f then atI l piece new k 0 else 0
def runC (l : List FileV) (piece : Int) (new : Bool) (k : Nat) (f : FileV) : Int := if hasW new f then atI l piece new k (f.len - 1) - atI l piece new k 0 + 1 else 0
theorem run_bd {l : List FileV} {piece : Int} {new : Bool} {k : Nat} (hp : 0 < piece) (hf : ∀ f ∈ l, 0 ≤ f.len) (hk : k < l.length) : 0 ≤ runF l piece new k l[k] ∧ 0 ≤ runC l piece new k l[k] ∧ runF l piece new k l[k] + runC l piece new k l[k] ≤ max 0 (piecesOf l piece new) ∧ (hasW new l[k] = true → 1 ≤ runC l piece new k l[k]) := by
  unfold runF runC
  cases h : hasW new l[k] with
  | false => simp; omega
  | true =>
    simp only [hasW, Bool.and_eq_true, decide_eq_true_eq, Bool.not_eq_true'] at h
    obtain ⟨h1, h2⟩ := h
    have a := atI_bd (piece := piece) (new := new) (at' := 0) hp hf hk (by omega) (by omega) h2
    have b := atI_bd (piece := piece) (new := new) (at' := l[k].len - 1) hp hf hk (by omega) (by omega) h2
    have c : atI l piece new k 0 ≤ atI l piece new k (l[k].len - 1) := by
      unfold atI
      split
      · have := div_le hp (show (0 : Int) ≤ l[k].len - 1 by omega); omega
      · exact div_le hp (by omega)
    simp only [if_true]
    omega
theorem holds_at {l : List FileV} {piece : Int} {new : Bool} {k : Nat} (hp : 0 < piece) (hf : ∀ f ∈ l, 0 ≤ f.len) (hk : k < l.length) (i : Int) (hi : 0 ≤ i) :
    holdsB [(k : Int)] (spansOf l piece new i) = decide (runF l piece new k l[k] ≤ i ∧ i < runF l piece new k l[k] + runC l piece new k l[k]) := by
  have h2 := hf _ (List.getElem_mem hk)
  cases new with
  | true =>
    have h := apGo_holds hp l i 0 k hf hk hi
    rw [Nat.zero_add] at h
    simp only [spansOf, if_true]
    rw [h]
    unfold runF runC
    have e : hasW true l[k] = hasN l[k] := by simp [hasW, hasN]
    rw [e]
    cases hh : hasN l[k] with
    | true =>
      have h3 := count_last hp hh h2
      simp only [if_true, atI, Int.zero_ediv]
      congr 1
      simp only [eq_iff_iff]
      omega
    | false =>
      simp only [countOf, hh, Bool.false_eq_true, if_false]
      congr 1
      simp only [eq_iff_iff]
      omega
  | false =>
    have h := rowGo_holds (i * piece) ((i + 1) * piece) l 0 0 k hk
    rw [Nat.zero_add, Int.zero_add] at h
    simp only [spansOf, Bool.false_eq_true, if_false]
    rw [h]
    have h3 := sum_split hk hf
    unfold runF runC
    cases hh : hasW false l[k] with
    | true =>
      have hl : 0 < l[k].len := by simpa [hasW] using hh
      simp only [if_true, atI, Bool.false_eq_true, if_false, Int.add_zero]
      congr 1
      simp only [eq_iff_iff]
      have a1 := (pos_eq (pos := sumOf (l.take k)) (i := sumOf (l.take k) / piece) hp).2 rfl
      have a2 := (pos_eq (pos := sumOf (l.take k) + (l[k].len - 1)) (i := (sumOf (l.take k) + (l[k].len - 1)) / piece) hp).2 rfl
      generalize sumOf (l.take k) / piece = A at *
      generalize (sumOf (l.take k) + (l[k].len - 1)) / piece = C at *
      constructor
      · intro q
        constructor
        · by_cases x : A ≤ i
          · exact x
          · have := Int.mul_le_mul_of_nonneg_right (show i + 1 ≤ A by omega) (show 0 ≤ piece by omega)
            omega
        · by_cases x : i ≤ C
          · omega
          · have := Int.mul_le_mul_of_nonneg_right (show C + 1 ≤ i by omega) (show 0 ≤ piece by omega)
            omega
      · rintro ⟨q1, q2⟩
        have b1 := Int.mul_le_mul_of_nonneg_right (show A + 1 ≤ i + 1 by omega) (show 0 ≤ piece by omega)
        have b2 := Int.mul_le_mul_of_nonneg_right (show i ≤ C by omega) (show 0 ≤ piece by omega)
        have b3 : i * piece < (i + 1) * piece := by rw [Int.add_mul]; omega
        omega
    | false =>
      have hl : ¬ 0 < l[k].len := by simpa [hasW] using hh
      simp only [Bool.false_eq_true, if_false]
      congr 1
      simp only [eq_iff_iff]
      omega

/-! ### lists of numbers -/
/-- The numbers, below j, of the rows that hold something of the files. -/
def holdTo (ks : List Int) (rows : List (List SpanV)) (j : Nat) : List Int := ((List.range j).filter (fun i => holdsB ks (rows.getD i []))).map (fun i : Nat => (i : Int))
theorem holdTo_zero (ks : List Int) (rows : List (List SpanV)) : holdTo ks rows 0 = [] := rfl
theorem holdTo_next {ks : List Int} {rows : List (List SpanV)} {j : Nat} (h : j < rows.length) : holdTo ks rows (j + 1) = holdTo ks rows j ++ (if holdsB ks rows[j] then [(j : Int)] else []) := by
  unfold holdTo
  rw [List.range_succ, List.filter_append, List.map_append]
  congr 1
  have e : rows.getD j [] = rows[j] := by simp [List.getD, List.getElem?_eq_getElem h]
  rw [List.filter_cons, e]
  cases holdsB ks rows[j] <;> simp
theorem holdTo_len (ks : List Int) (rows : List (List SpanV)) (j : Nat) : (holdTo ks rows j).length ≤ j := by
  unfold holdTo
  rw [List.length_map]
  have := List.length_filter_le (fun i => holdsB ks (rows.getD i [])) (List.range j)
  simpa using this
theorem mem_holdTo {ks : List Int} {rows : List (List SpanV)} {j : Nat} {x : Int} : x ∈ holdTo ks rows j ↔ ∃ i : Nat, i < j ∧ x = i ∧ holdsB ks (rows.getD i []) = true := by
  unfold holdTo
  simp only [List.mem_map, List.mem_filter, List.mem_range]
  constructor
  · rintro ⟨i, ⟨h1, h2⟩, rfl⟩
    exact ⟨i, h1, rfl, h2⟩
  · rintro ⟨i, h1, rfl, h2⟩
    exact ⟨i, ⟨h1, h2⟩, rfl⟩
theorem holdTo_asc (ks : List Int) (rows : List (List SpanV)) (j : Nat) : (holdTo ks rows j).Pairwise (· < ·) := by
  unfold holdTo
  rw [List.pairwise_map]
  have h : (List.range j).Pairwise (· < ·) := List.pairwise_lt_range
  refine (h.filter _).imp ?_
  intro a b hab
  omega
/-- Two ascending lists with the same members are one. -/
theorem asc_ext : ∀ {A B : List Int}, A.Pairwise (· < ·) → B.Pairwise (· < ·) → (∀ x, x ∈ A ↔ x ∈ B) → A = B
  | [], [], _, _, _ => rfl
  | [], b :: B, _, _, h => by have := (h b).2 (by simp); simp at this
  | a :: A, [], _, _, h => by have := (h a).1 (by simp); simp at this
  | a :: A, b :: B, hA, hB, h => by
    rw [List.pairwise_cons] at hA hB
    have e : a = b := by
      rcases List.mem_cons.1 ((h a).1 (by simp)) with e | e
      · exact e
      · rcases List.mem_cons.1 ((h b).2 (by simp)) with e' | e'
        · exact e'.symm
        · have := hA.1 b e'
          have := hB.1 a e
          omega
    subst e
    congr 1
    refine asc_ext hA.2 hB.2 (fun x => ?_)
    have hx := h x
    simp only [List.mem_cons] at hx
    constructor
    · intro q
      rcases hx.1 (.inr q) with e | e
      · subst e; have := hA.1 x q; omega
      · exact e
    · intro q
      rcases hx.2 (.inr q) with e | e
      · subst e; have := hB.1 x q; omega
      · exact e
theorem range_asc (a c : Nat) : ((List.range' a c).map (fun i : Nat => (i : Int))).Pairwise (· < ·) := by
  rw [List.pairwise_map]
  exact (List.pairwise_lt_range' (s := a) (n := c)).imp (fun h => by omega)
/-- The pieces of one file, as the reference lists them. -/
theorem hold_run {l : List FileV} {piece : Int} {new : Bool} {k : Nat} (hp : 0 < piece) (hf : ∀ f ∈ l, 0 ≤ f.len) (hk : k < l.length) :
    holdTo [(k : Int)] (cutOf l piece new) (cutOf l piece new).length = (List.range' (runF l piece new k l[k]).toNat (runC l piece new k l[k]).toNat).map (fun i : Nat => (i : Int)) := by
  have hb := run_bd (piece := piece) (new := new) hp hf hk
  refine asc_ext (holdTo_asc _ _ _) (range_asc _ _) (fun x => ?_)
  rw [mem_holdTo]
  have hlen : (cutOf l piece new).length = (piecesOf l piece new).toNat := by rw [cut_is new hp hf]; simp
  have hg : ∀ i, i < (piecesOf l piece new).toNat → (cutOf l piece new).getD i [] = spansOf l piece new i := by
    intro i hi
    rw [cut_is new hp hf]
    simp [List.getD, hi]
  rw [hlen]
  simp only [List.mem_map, List.mem_range'_1]
  constructor
  · rintro ⟨i, h1, rfl, h2⟩
    rw [hg i h1, holds_at hp hf hk i (by omega), decide_eq_true_eq] at h2
    exact ⟨i, by omega, rfl⟩
  · rintro ⟨i, h1, rfl⟩
    have h3 : i < (piecesOf l piece new).toNat := by omega
    refine ⟨i, h3, rfl, ?_⟩
    rw [hg i h3, holds_at hp hf hk i (by omega), decide_eq_true_eq]
    omega
/-! ### Cover: the runs of some files, sorted, each number once -/
def runL (l : List FileV) (piece : Int) (new : Bool) (k : Int) : List Int := match l[k.toNat]? with | some f => (List.range' (runF l piece new k.toNat f).toNat (runC l piece new k.toNat f).toNat).map (fun i : Nat => (i : Int)) | none => []
theorem holds_any (ks : List Int) (S : List SpanV) : holdsB ks S = true ↔ ∃ k ∈ ks, holdsB [k] S = true := by
  simp only [holdsB, List.any_eq_true, List.any_cons, List.any_nil, Bool.or_false, decide_eq_true_eq]
  constructor
  · rintro ⟨s, hs, k, hk, e⟩
    exact ⟨k, hk, s, hs, e⟩
  · rintro ⟨k, hk, s, hs, e⟩
    exact ⟨s, hs, k, hk, e⟩
theorem compact_asc {zs : List Int} (hs : zs.Pairwise (· ≤ ·)) : ∀ m, m ≤ zs.length → (Lib.compactUpTo zs.toArray m).Pairwise (· < ·) ∧ ∀ x, x ∈ Lib.compactUpTo zs.toArray m ↔ x ∈ zs.take m
  | 0, _ => by simp [Lib.compactUpTo]
  | m + 1, h => by
    obtain ⟨h1, h2⟩ := compact_asc hs m (by omega)
    have hm : zs.toArray[m]! = zs[m] := by simp [show m < zs.length by omega]
    rw [Lib.compactUpTo_succ, hm, List.take_succ_eq_append_getElem (by omega)]
    have hle : ∀ x, x ∈ zs.take m → x ≤ zs[m] := by
      intro x hx
      obtain ⟨i, hi, rfl⟩ := List.mem_iff_getElem.1 hx
      rw [List.length_take] at hi
      rw [List.getElem_take]
      exact List.pairwise_iff_getElem.1 hs i m (by omega) (by omega) (by omega)
    by_cases hk : Lib.keeps zs.toArray m = true
    · rw [if_pos hk]
      refine ⟨?_, fun x => by rw [List.mem_append, List.mem_append, h2 x]⟩
      rw [List.pairwise_append]
      refine ⟨h1, by simp, fun x hx y hy => ?_⟩
      obtain rfl := List.mem_singleton.1 hy
      have hx' := (h2 x).1 hx
      simp only [Lib.keeps, decide_eq_true_eq] at hk
      rcases hk with hk | hk
      · subst hk
        simp at hx'
      · have hm1 : zs.toArray[m - 1]! = zs[m - 1] := by simp [show m - 1 < zs.length by omega]
        rw [hm, hm1] at hk
        have h0 : m ≠ 0 := by intro e; subst e; simp at hk
        obtain ⟨i, hi, rfl⟩ := List.mem_iff_getElem.1 hx'
        rw [List.length_take] at hi
        rw [List.getElem_take]
        have a1 : zs[i] ≤ zs[m - 1] := by
          by_cases e : i = m - 1
          · subst e; exact Int.le_refl _
          · exact List.pairwise_iff_getElem.1 hs i (m - 1) (by omega) (by omega) (by omega)
        have a2 : zs[m - 1] ≤ zs[m] := List.pairwise_iff_getElem.1 hs (m - 1) m (by omega) (by omega) (by omega)
        omega
    · rw [if_neg hk, List.append_nil]
      refine ⟨h1, fun x => ?_⟩
      rw [h2 x, List.mem_append, List.mem_singleton]
      constructor
      · exact .inl
      · rintro (e | e)
        · exact e
        · subst e
          simp only [Lib.keeps, decide_eq_true_eq] at hk
          have h0 : m ≠ 0 := fun e => hk (.inl e)
          have hm1 : zs.toArray[m - 1]! = zs[m - 1] := by simp [show m - 1 < zs.length by omega]
          have e2 : zs[m] = zs[m - 1] := by
            rw [← hm, ← hm1]
            exact Classical.byContradiction fun q => hk (.inr q)
          rw [e2]
          exact List.mem_iff_getElem.2 ⟨m - 1, by simp; omega, by rw [List.getElem_take]⟩
/-- The two tellings of Cover. -/
theorem cover_eq {l : List FileV} {piece : Int} {new : Bool} (hp : 0 < piece) (hf : ∀ f ∈ l, 0 ≤ f.len) {ks : List Int} (hk : ∀ k ∈ ks, 0 ≤ k ∧ k < l.length) :
    Lib.compact ((ks.flatMap (runL l piece new)).mergeSort fun x y => decide (x ≤ y)) = holdTo ks (cutOf l piece new) (cutOf l piece new).length := by
  have hsrt : ((ks.flatMap (runL l piece new)).mergeSort fun x y => decide (x ≤ y)).Pairwise (· ≤ ·) := by
    have := List.pairwise_mergeSort (le := fun x y : Int => decide (x ≤ y)) (by intro a b c; simp; omega) (by intro a b; simp; omega) (ks.flatMap (runL l piece new))
    exact this.imp (by intro a b h; simpa using h)
  obtain ⟨h1, h2⟩ := compact_asc hsrt _ (Nat.le_refl _)
  refine asc_ext h1 (holdTo_asc _ _ _) (fun x => ?_)
  refine (h2 x).trans ?_
  rw [List.take_length, List.mem_mergeSort, List.mem_flatMap, mem_holdTo]
  have key : ∀ k ∈ ks, ∀ x, x ∈ runL l piece new k ↔ x ∈ holdTo [k] (cutOf l piece new) (cutOf l piece new).length := by
    intro k hkk x
    obtain ⟨a, b⟩ := hk k hkk
    obtain ⟨m, rfl⟩ := Int.eq_ofNat_of_zero_le a
    have hm : m < l.length := by omega
    rw [hold_run hp hf hm]
    simp [runL, List.getElem?_eq_getElem hm]
  constructor
  · rintro ⟨k, hkk, hx⟩
    rw [key k hkk, mem_holdTo] at hx
    obtain ⟨i, a, b, c⟩ := hx
    exact ⟨i, a, b, (holds_any _ _).2 ⟨k, hkk, c⟩⟩
  · rintro ⟨i, a, b, c⟩
    obtain ⟨k, hkk, hx⟩ := (holds_any _ _).1 c
    exact ⟨k, hkk, by rw [key k hkk, mem_holdTo]; exact ⟨i, a, b, hx⟩⟩
end Go.Proofs.YtnccfikimmolgaaGreatDoor
