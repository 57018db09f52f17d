/-
  Several texts in one, in their build order. Fields of bits and runs of bits told in plain words: the numbers that are set, the runs they make, the field that runs make; runs of a field make the field. Plain Lean, no program. No condition. Texts of runs of bits told in plain words: numbers, parts, what is written and read; the two readings of a part are one. Plain Lean, no program. No condition.
-/
import Derived.Test.YtbgmkplpolgebaaGreatDoorM12
namespace Go.Proofs.YtbgmkplpolgebaaGreatDoor
set_option linter.unusedSimpArgs false
set_option linter.unusedVariables false

/-- The numbers of the bits that are set, below n. -/
def numsL (n : Nat) (s : List UInt8) : List Nat := (List.range n).filter (fun i => bitL s i)
theorem numsL_succ (n : Nat) (s : List UInt8) : numsL (n + 1) s = numsL n s ++ (if bitL s n = true then [n] else []) := by
  unfold numsL
  rw [List.range_succ, List.filter_append]
  congr 1
  cases h : bitL s n <;> simp [h]
theorem numsL_lt {n : Nat} {s : List UInt8} {i : Nat} (h : i ∈ numsL n s) : i < n := by
  unfold numsL at h
  have := (List.mem_filter.1 h).1
  simpa using this
/-- One number more behind runs. -/
def runPut (R : List (Int × Int)) (i : Nat) : List (Int × Int) :=
  match R.getLast? with
  | some r => if r.1 + r.2 = (i : Int) then R.dropLast ++ [(r.1, r.2 + 1)] else R ++ [((i : Int), 1)]
  | none => [((i : Int), 1)]
def runsN (N : List Nat) : List (Int × Int) := N.foldl runPut []
def runsF (n : Nat) (s : List UInt8) : List (Int × Int) := runsN (numsL n s)
theorem runsN_snoc (N : List Nat) (i : Nat) : runsN (N ++ [i]) = runPut (runsN N) i := by
  unfold runsN
  rw [List.foldl_append]
  rfl
theorem runPut_nil (i : Nat) : runPut [] i = [((i : Int), 1)] := rfl
theorem runPut_on (R : List (Int × Int)) (r : Int × Int) (i : Nat) (h : r.1 + r.2 = (i : Int)) : runPut (R ++ [r]) i = R ++ [(r.1, r.2 + 1)] := by
  unfold runPut
  rw [List.getLast?_concat]
  simp [h]
theorem runPut_new (R : List (Int × Int)) (r : Int × Int) (i : Nat) (h : r.1 + r.2 ≠ (i : Int)) : runPut (R ++ [r]) i = R ++ [r] ++ [((i : Int), 1)] := by
  unfold runPut
  rw [List.getLast?_concat]
  simp [h]
theorem snoc_form (R : List (Int × Int)) : R = [] ∨ ∃ A r, R = A ++ [r] := by
  rcases List.eq_nil_or_concat R with h | ⟨A, r, h⟩
  · exact .inl h
  · exact .inr ⟨A, r, by rw [h]; simp⟩
theorem snoc_ind {α : Type} {p : List α → Prop} (h0 : p []) (h1 : ∀ N i, p N → p (N ++ [i])) : ∀ (k : Nat) (N : List α), N.length = k → p N
  | 0, N, h => by
    obtain rfl : N = [] := List.eq_nil_of_length_eq_zero h
    exact h0
  | k + 1, N, h => by
    rcases List.eq_nil_or_concat N with e | ⟨A, r, e⟩
    · subst e
      cases h
    · rw [List.concat_eq_append] at e
      subst e
      exact h1 A r (snoc_ind h0 h1 k A (by simpa using h))
/-- Runs of numbers below n: each in its bounds. -/
theorem runs_good {n : Nat} (N : List Nat) : (∀ i ∈ N, i < n) → (∀ r ∈ runsN N, 0 ≤ r.1 ∧ 1 ≤ r.2 ∧ r.1 + r.2 ≤ n) ∧ (runsN N).length ≤ N.length := by
  refine snoc_ind (p := fun N => (∀ i ∈ N, i < n) → (∀ r ∈ runsN N, 0 ≤ r.1 ∧ 1 ≤ r.2 ∧ r.1 + r.2 ≤ n) ∧ (runsN N).length ≤ N.length) ?_ ?_ N.length N rfl
  · intro _; simp [runsN]
  · intro N i ih h
    obtain ⟨h1, h2⟩ := ih (fun j hj => h j (by simp [hj]))
    have hi := h i (by simp)
    rw [runsN_snoc]
    rcases snoc_form (runsN N) with e | ⟨A, r, e⟩
    · rw [e, runPut_nil]
      refine ⟨fun r hr => ?_, by simp⟩
      simp only [List.mem_singleton] at hr
      subst hr
      simp only
      omega
    · have hr := h1 r (by rw [e]; simp)
      rw [e] at h2
      by_cases q : r.1 + r.2 = (i : Int)
      · rw [e, runPut_on _ _ _ q]
        refine ⟨fun x hx => ?_, by simp at h2 ⊢; omega⟩
        rcases List.mem_append.1 hx with hx | hx
        · exact h1 x (by rw [e]; simp [hx])
        · simp only [List.mem_singleton] at hx
          subst hx
          simp only
          omega
      · rw [e, runPut_new _ _ _ q]
        refine ⟨fun x hx => ?_, by simp at h2 ⊢; omega⟩
        rcases List.mem_append.1 hx with hx | hx
        · exact h1 x (by rw [e]; exact hx)
        · simp only [List.mem_singleton] at hx
          subst hx
          simp only
          omega
/-- The bits from a on, c of them, are set. -/
def fillL (s : List UInt8) (a : Nat) : Nat → List UInt8
  | 0 => s
  | c + 1 => setL (fillL s a c) (a + c) true
theorem fill_field {n : Nat} {s : List UInt8} (h : FieldOf n s) (a : Nat) : ∀ (c : Nat), a + c ≤ n → FieldOf n (fillL s a c)
  | 0, _ => h
  | c + 1, hc => (fill_field h a c (by omega)).set (by omega) true
theorem fill_bit {n : Nat} {s : List UInt8} (h : FieldOf n s) (a : Nat) : ∀ (c : Nat), a + c ≤ n → ∀ j, bitL (fillL s a c) j = (bitL s j || (decide (a ≤ j) && decide (j < a + c)))
  | 0, _, j => by
    have : (decide (a ≤ j) && decide (j < a + 0)) = false := by
      rw [Bool.and_eq_false_iff, decide_eq_false_iff_not, decide_eq_false_iff_not]
      omega
    rw [this, Bool.or_false]
    rfl
  | c + 1, hc, j => by
    show bitL (setL (fillL s a c) (a + c) true) j = _
    rw [(fill_field h a c (by omega)).bit_set (by omega) true, fill_bit h a c (by omega) j]
    by_cases e : j = a + c
    · rw [if_pos e]
      have : (decide (a ≤ j) && decide (j < a + (c + 1))) = true := by
        rw [Bool.and_eq_true, decide_eq_true_eq, decide_eq_true_eq]
        omega
      rw [this, Bool.or_true]
    · rw [if_neg e]
      congr 1
      congr 1
      rw [decide_eq_decide]
      omega
/-- What is wrong with a run. -/
def runBad (n : Nat) (r : Int × Int) : Bool := decide (r.2 < 1) || decide (r.1 < 0) || decide ((n : Int) < r.1) || decide ((n : Int) - r.1 < r.2)
/-- One run more in a field. -/
def frStep (n : Nat) (st : Int × List UInt8) (r : Int × Int) : Except Int (Int × List UInt8) :=
  if runBad n r = true then .error 7 else if r.1 < st.1 then .error 6 else .ok (r.1 + r.2, fillL st.2 r.1.toNat r.2.toNat)
def frS (n : Nat) : List (Int × Int) → Int × List UInt8 → Except Int (Int × List UInt8)
  | [], st => .ok st
  | r :: R, st => match frStep n st r with
    | .error k => .error k
    | .ok st' => frS n R st'
def zerosL (n : Nat) : List UInt8 := List.replicate ((n + 7) / 8) 0
/-- The field of runs. -/
def frR (n : Nat) (R : List (Int × Int)) : Except Int (List UInt8) := match frS n R (0, zerosL n) with
  | .error k => .error k
  | .ok st => .ok st.2
theorem frS_app (n : Nat) : ∀ (A B : List (Int × Int)) (st : Int × List UInt8), frS n (A ++ B) st = (match frS n A st with
    | .error k => Except.error k
    | .ok st' => frS n B st')
  | [], B, st => rfl
  | r :: A, B, st => by
    show (match frStep n st r with | .error k => Except.error k | .ok st' => frS n (A ++ B) st') = (match (match frStep n st r with | .error k => Except.error k | .ok st' => frS n A st') with | .error k => Except.error k | .ok st' => frS n B st')
    cases frStep n st r with
    | error k => rfl
    | ok st' => exact frS_app n A B st'
theorem frS_field {n : Nat} : ∀ (R : List (Int × Int)) (st st' : Int × List UInt8), FieldOf n st.2 → frS n R st = .ok st' → FieldOf n st'.2
  | [], st, st', h, e => by
    injection e with e
    subst e
    exact h
  | r :: R, st, st', h, e => by
    simp only [frS] at e
    unfold frStep at e
    by_cases h1 : runBad n r = true
    · rw [if_pos h1] at e
      cases e
    · rw [if_neg h1] at e
      by_cases h2 : r.1 < st.1
      · rw [if_pos h2] at e
        cases e
      · rw [if_neg h2] at e
        refine frS_field R _ st' ?_ e
        refine fill_field h _ _ ?_
        simp only [runBad, Bool.or_eq_true, decide_eq_true_eq] at h1
        omega
theorem frR_field {n : Nat} {R : List (Int × Int)} {s : List UInt8} (h : frR n R = .ok s) : FieldOf n s := by
  unfold frR at h
  cases e : frS n R (0, zerosL n) with
  | error k => rw [e] at h; cases h
  | ok st =>
    rw [e] at h
    injection h with h
    subst h
    exact frS_field R _ st (FieldOf.zero n) e
theorem frS_one {n : Nat} {st : Int × List UInt8} {r : Int × Int} (h1 : 1 ≤ r.2) (h2 : 0 ≤ r.1) (h3 : r.1 + r.2 ≤ n) (h4 : st.1 ≤ r.1) : frS n [r] st = .ok (r.1 + r.2, fillL st.2 r.1.toNat r.2.toNat) := by
  have hb : ¬ runBad n r = true := by
    simp only [runBad, Bool.or_eq_true, decide_eq_true_eq]
    omega
  simp only [frS]
  unfold frStep
  rw [if_neg hb, if_neg (by omega)]
/-- The runs of a field make the field. -/
theorem runs_make {n : Nat} {s : List UInt8} (h : FieldOf n s) : ∀ k, k ≤ n → ∃ st, frS n (runsN (numsL k s)) (0, zerosL n) = .ok st ∧ 0 ≤ st.1 ∧ st.1 ≤ k ∧ (∀ j, bitL st.2 j = (bitL s j && decide (j < k))) ∧ (∀ A r, runsN (numsL k s) = A ++ [r] → r.1 + r.2 = st.1 ∧ 0 ≤ r.1 ∧ 1 ≤ r.2)
  | 0, _ => by
    refine ⟨(0, zerosL n), rfl, Int.le_refl _, Int.le_refl _, fun j => ?_, fun A r e => ?_⟩
    · show bitL (zerosL n) j = _
      unfold zerosL
      rw [bitL_zero]
      simp
    · simp [numsL, runsN] at e
  | k + 1, hk => by
    obtain ⟨st, h1, h2, h3, h4, h5⟩ := runs_make h k (by omega)
    have hf := frS_field _ _ st (FieldOf.zero n) h1
    rw [numsL_succ]
    by_cases hb : bitL s k = true
    · rw [if_pos hb, runsN_snoc]
      have hlast : ∀ j, (bitL s j && decide (j < k) || (decide (k ≤ j) && decide (j < k + 1))) = (bitL s j && decide (j < k + 1)) := by
        intro j
        by_cases e1 : j < k
        · have e2 : j < k + 1 := by omega
          have e3 : ¬ k ≤ j := by omega
          simp [e1, e2, e3]
        · by_cases e2 : j = k
          · subst e2
            simp [hb]
          · have e3 : ¬ j < k + 1 := by omega
            simp [e1, e3]
      rcases snoc_form (runsN (numsL k s)) with e | ⟨A, r, e⟩
      · rw [e] at h1
        injection h1 with h1
        subst h1
        rw [e, runPut_nil]
        refine ⟨((k : Int) + 1, fillL (zerosL n) k 1), ?_, by simp only; omega, by simp, fun j => ?_, fun A r q => ?_⟩
        · exact frS_one (r := ((k : Int), 1)) (by simp only; omega) (by simp only; omega) (by simp only; omega) (by simp only; omega)
        · show bitL (fillL (zerosL n) k 1) j = _
          rw [fill_bit (show FieldOf n (zerosL n) from FieldOf.zero n) k 1 (by omega), ← hlast j, ← h4 j]
        · have := congrArg List.getLast? q
          simp at this
          subst this
          exact ⟨rfl, Int.natCast_nonneg _, Int.le_refl _⟩
      · obtain ⟨g1, g2, g3⟩ := h5 A r e
        by_cases q : r.1 + r.2 = (k : Int)
        · rw [e, runPut_on _ _ _ q]
          rw [e, frS_app] at h1
          cases e1 : frS n A (0, zerosL n) with
          | error x => rw [e1] at h1; cases h1
          | ok st1 =>
            rw [e1] at h1
            simp only at h1
            have hst : st1.1 ≤ r.1 := by
              simp only [frS] at h1
              unfold frStep at h1
              by_cases c1 : runBad n r = true
              · rw [if_pos c1] at h1
                cases h1
              · rw [if_neg c1] at h1
                by_cases c2 : r.1 < st1.1
                · rw [if_pos c2] at h1
                  cases h1
                · omega
            rw [frS_one g3 g2 (by omega) hst] at h1
            injection h1 with h1
            subst h1
            have hf1 := frS_field _ _ st1 (FieldOf.zero n) e1
            refine ⟨(r.1 + (r.2 + 1), fillL st1.2 r.1.toNat (r.2 + 1).toNat), ?_, by simp only at *; omega, by simp only at *; omega, fun j => ?_, fun A' r' q' => ?_⟩
            · rw [frS_app, e1]
              exact frS_one (r := (r.1, r.2 + 1)) (by simp only; omega) g2 (by simp only; omega) hst
            · show bitL (fillL st1.2 r.1.toNat (r.2 + 1).toNat) j = _
              have e5 : (r.2 + 1).toNat = r.2.toNat + 1 := by omega
              rw [e5]
              show bitL (setL (fillL st1.2 r.1.toNat r.2.toNat) (r.1.toNat + r.2.toNat) true) j = _
              rw [(fill_field hf1 _ _ (by omega)).bit_set (by omega) true]
              have h4j := h4 j
              simp only at h4j
              rw [h4j]
              have e6 : r.1.toNat + r.2.toNat = k := by omega
              rw [e6]
              by_cases e7 : j = k
              · subst e7
                rw [if_pos rfl, hb]
                simp
              · rw [if_neg e7]
                congr 1
                rw [decide_eq_decide]
                omega
            · have := congrArg List.getLast? q'
              simp at this
              subst this
              exact ⟨rfl, g2, by simp only; omega⟩
        · rw [e, runPut_new _ _ _ q, ← e]
          refine ⟨((k : Int) + 1, fillL st.2 k 1), ?_, by simp only; omega, by simp, fun j => ?_, fun A' r' q' => ?_⟩
          · rw [frS_app, h1]
            exact frS_one (r := ((k : Int), 1)) (by simp only; omega) (by simp only; omega) (by simp only; omega) (by simp only; omega)
          · show bitL (fillL st.2 k 1) j = _
            rw [fill_bit hf k 1 (by omega), h4 j, hlast j]
          · have := congrArg List.getLast? q'
            simp at this
            subst this
            exact ⟨rfl, Int.natCast_nonneg _, Int.le_refl _⟩
    · rw [if_neg hb, List.append_nil]
      refine ⟨st, h1, h2, by omega, fun j => ?_, h5⟩
      rw [h4 j]
      by_cases e : j = k
      · subst e
        have : bitL s j = false := by simpa using hb
        rw [this]
        rfl
      · congr 1
        rw [decide_eq_decide]
        omega
theorem frR_runs {n : Nat} {s : List UInt8} (h : FieldOf n s) : frR n (runsF n s) = .ok s := by
  obtain ⟨st, h1, -, -, h4, -⟩ := runs_make h n (Nat.le_refl _)
  unfold frR runsF
  rw [h1]
  have hf := frS_field _ _ st (FieldOf.zero n) h1
  show Except.ok st.2 = .ok s
  congr 1
  refine hf.ext h (fun i hi => ?_)
  rw [h4 i, decide_eq_true hi, Bool.and_true]
end Go.Proofs.YtbgmkplpolgebaaGreatDoor

namespace Go.Proofs.YtbgmkplpolgebaaGreatDoor
set_option linter.unusedSimpArgs false
set_option linter.unusedVariables false

/-- A number in its digits, without zeros ahead. -/
def natP (s : List UInt8) : Option Nat := if canon s = true ∧ s.all isDig = true then some (decVal s) else none
theorem natP_iff {s : List UInt8} {u : Nat} : natP s = some u ↔ Lib.decDigits u = s := by
  unfold natP
  constructor
  · intro h
    by_cases c : canon s = true ∧ s.all isDig = true
    · rw [if_pos c] at h
      injection h with h
      rw [← h]
      exact dec_back c.2 c.1
    · rw [if_neg c] at h
      cases h
  · intro h
    obtain ⟨h1, h2, h3, -, -⟩ := dec_read u
    rw [h] at h1 h2 h3
    rw [if_pos ⟨h3, h2⟩, h1]
theorem natP_no {s : List UInt8} {c : UInt8} (hc : c ∈ s) (h : isDig c = false) : natP s = none := by
  unfold natP
  rw [if_neg]
  rintro ⟨-, q⟩
  have := List.all_eq_true.1 q c hc
  rw [h] at this
  cases this
def numP (s : List UInt8) : Option Int := match Lib.atoiAll s with
  | .ok n => if 0 ≤ n ∧ Lib.itoa n = s then some n else none
  | _ => none
theorem itoa_nat (u : Nat) : Lib.itoa (u : Int) = Lib.decDigits u := by
  unfold Lib.itoa
  rw [if_neg (by omega), Int.toNat_natCast]
theorem numP_eq (s : List UInt8) : numP s = match natP s with
    | some u => if u ≤ 9223372036854775807 then some (u : Int) else none
    | none => none := by
  cases hn : natP s with
  | some u =>
    have h := natP_iff.1 hn
    obtain ⟨h1, h2, h3, -, -⟩ := dec_read u
    rw [h] at h1 h2
    have hne : s ≠ [] := by rw [← h]; exact (dec_bytes u).2
    have ha := atoi_digits h2 hne
    rw [h1] at ha
    unfold numP
    rw [ha]
    by_cases hu : u ≤ 9223372036854775807
    · simp only [if_pos hu]
      rw [if_pos ⟨by omega, by rw [itoa_nat, h]⟩]
    · simp only [if_neg hu]
  | none =>
    unfold numP
    cases ha : Lib.atoiAll s with
    | ok n =>
      simp only
      rw [if_neg]
      rintro ⟨h0, h1⟩
      obtain ⟨u, rfl⟩ := Int.eq_ofNat_of_zero_le h0
      rw [itoa_nat] at h1
      rw [natP_iff.2 h1] at hn
      cases hn
    | _ => rfl
def digP (most : Nat) (s : List UInt8) : Int := match natP s with
  | some u => if u ≤ most then (u : Int) else -1
  | none => -1
/-- A part of a text of runs. -/
def runP (a b : List UInt8) : Option (Int × Int) := match natP a, natP b with
  | some f, some t => if t < f ∨ 4096 < t then none else some ((f : Int), (t : Int) - f + 1)
  | _, _ => none
def partP (p : List UInt8) : Option (Int × Int) := runP (cutB 45 p).1 (if (cutB 45 p).2.2 = true then (cutB 45 p).2.1 else (cutB 45 p).1)
theorem cutB_free {c : UInt8} : ∀ (s : List UInt8), c ∉ s → cutB c s = (s, [], false)
  | [], _ => rfl
  | b :: l, h => by
    have hb : b ≠ c := fun e => h (by rw [e]; exact .head _)
    rw [cutB, if_neg hb, cutB_free l (fun q => h (.tail _ q))]
theorem cutB_app {c : UInt8} (b : List UInt8) : ∀ (a : List UInt8), c ∉ a → cutB c (a ++ c :: b) = (a, b, true)
  | [], _ => by simp [cutB]
  | x :: a, h => by
    have hx : x ≠ c := fun e => h (by rw [e]; exact .head _)
    rw [List.cons_append, cutB, if_neg hx, cutB_app b a (fun q => h (.tail _ q))]
def partR (p : List UInt8) : Option (Int × Int) :=
  if 2 < (pieces [] 45 p).length then none
  else if digP 4096 ((pieces [] 45 p).headD []) < 0 ∨ digP 4096 ((pieces [] 45 p).getLastD []) < 0 ∨ digP 4096 ((pieces [] 45 p).getLastD []) < digP 4096 ((pieces [] 45 p).headD []) then none
  else some (digP 4096 ((pieces [] 45 p).headD []), digP 4096 ((pieces [] 45 p).getLastD []) - digP 4096 ((pieces [] 45 p).headD []) + 1)
theorem digP_run (a b : List UInt8) : (if digP 4096 a < 0 ∨ digP 4096 b < 0 ∨ digP 4096 b < digP 4096 a then none else some (digP 4096 a, digP 4096 b - digP 4096 a + 1)) = runP a b := by
  unfold runP digP
  cases ha : natP a with
  | none => simp
  | some f =>
    cases hb : natP b with
    | none =>
      simp
    | some t =>
      simp only
      by_cases h1 : t < f ∨ 4096 < t
      · rw [if_pos h1, if_pos]
        by_cases h2 : f ≤ 4096
        · rw [if_pos h2]
          by_cases h3 : t ≤ 4096
          · rw [if_pos h3]
            omega
          · rw [if_neg h3]
            omega
        · rw [if_neg h2]
          exact .inl (by omega)
      · rw [if_neg h1, if_pos (by omega : f ≤ 4096), if_pos (by omega : t ≤ 4096), if_neg (by omega)]
theorem partR_eq (p : List UInt8) : partR p = partP p := by
  unfold partR partP
  rcases byte_form 45 p with h | ⟨a, b, rfl, h⟩
  · rw [pieces_free _ h, cutB_free _ h]
    simp only [List.length_singleton, List.headD_cons, List.getLastD_cons, List.getLastD_nil, Bool.false_eq_true, if_false]
    rw [if_neg (by omega)]
    exact digP_run p p
  · rw [pieces_app _ _ h, cutB_app _ _ h]
    simp only [if_true]
    rcases byte_form 45 b with h2 | ⟨x, y, rfl, h2⟩
    · rw [pieces_free _ h2]
      simp only [List.length_cons, List.length_nil, List.headD_cons, List.getLastD_cons, List.getLastD_nil]
      rw [if_neg (by omega)]
      exact digP_run a b
    · rw [pieces_app _ _ h2, if_pos]
      · unfold runP
        rw [natP_no (s := x ++ 45 :: y) (c := 45) (by simp) (by decide)]
        cases natP a <;> rfl
      · have := List.length_pos_iff.2 (pieces_ne [] 45 y)
        simp only [List.length_cons]
        omega
def partsP : List (List UInt8) → Option (List (Int × Int))
  | [] => some []
  | p :: ps => match partP p with
    | none => none
    | some r => match partsP ps with
      | none => none
      | some R => some (r :: R)
theorem partsP_app : ∀ (A : List (List UInt8)) (RA : List (Int × Int)) (B : List (List UInt8)), partsP A = some RA → partsP (A ++ B) = (partsP B).map (RA ++ ·)
  | [], RA, B, h => by
    injection h with h
    subst h
    show partsP B = _
    cases partsP B <;> rfl
  | p :: A, RA, B, h => by
    simp only [partsP] at h
    show (match partP p with | none => none | some r => match partsP (A ++ B) with | none => none | some R => some (r :: R)) = _
    cases hp : partP p with
    | none => rw [hp] at h; cases h
    | some r =>
      rw [hp] at h
      cases ha : partsP A with
      | none => rw [ha] at h; cases h
      | some R =>
        rw [ha] at h
        injection h with h
        subst h
        simp only
        rw [partsP_app A R B ha]
        cases partsP B <;> rfl
theorem partsP_next {A : List (List UInt8)} {RA : List (Int × Int)} {p : List UInt8} {r : Int × Int} (h : partsP A = some RA) (hp : partP p = some r) : partsP (A ++ [p]) = some (RA ++ [r]) := by
  rw [partsP_app A RA [p] h]
  simp [partsP, hp]
theorem partsP_bad {A B : List (List UInt8)} {RA : List (Int × Int)} {p : List UInt8} (h : partsP A = some RA) (hp : partP p = none) : partsP (A ++ p :: B) = none := by
  rw [partsP_app A RA _ h]
  simp [partsP, hp]
/-- What is written for runs. -/
def pieceT (r : Int × Int) : List UInt8 := Lib.itoa r.1 ++ (if 1 < r.2 then 45 :: Lib.itoa (r.1 + r.2 - 1) else [])
def txtR (R : List (Int × Int)) : List UInt8 := Lib.join (R.map pieceT) [44]
/-- The field that a text tells. -/
def bitsP (n : Nat) (s : List UInt8) : Option (List UInt8) := match partsP (if s = [] then [] else pieces [] 44 s) with
  | none => none
  | some R => match frR n R with
    | .error _ => none
    | .ok f => if txtR (runsF n f) = s then some f else none
theorem bitsP_field {n : Nat} {s f : List UInt8} (h : bitsP n s = some f) : FieldOf n f := by
  unfold bitsP at h
  split at h
  · cases h
  · next R hR =>
    split at h
    · cases h
    · next g hg =>
      split at h
      · injection h with h
        subst h
        exact frR_field hg
      · cases h
end Go.Proofs.YtbgmkplpolgebaaGreatDoor
