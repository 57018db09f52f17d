/-
  Several texts in one, in their build order. Texts cut at a byte, and decimal numbers, told in plain words. Plain Lean, no program. No condition. Fields of bits told in plain words: which bit stands where in a row of bytes, a bit that is set, a field's shape. Plain Lean, no program. No condition. Fields of bits and runs of bits told in plain words: the numbers that are set, the runs they make, the field that runs make; runs of a field make the field. Plain Lean, no program. No condition.
-/
import Derived.Test.YtbgmkplpolgebaaGreatDoorM1
import Derived.Test.YtbgmkplpolgebaaGreatDoorM2
import Derived.Lib.SplitLaws
import Derived.Lib.Split
import Derived.Lib.AtoiAll
import Derived.Lib.ItoaNum
namespace Go.Proofs.YtbgmkplpolgebaaGreatDoor
set_option linter.unusedSimpArgs false
set_option linter.unusedVariables false

def mkB (l : List UInt8) : ByteArray := ⟨l.toArray⟩
theorem byte_at' (t : ByteArray) {k : Nat} (h : k < t.size) : t.data.toList[k]? = some t[k] := by
  rw [List.getElem?_eq_getElem (by rw [Array.length_toList]; exact h)]
  rfl
end Go.Proofs.YtbgmkplpolgebaaGreatDoor

namespace Go.Proofs.YtbgmkplpolgebaaGreatDoor
set_option linter.unusedSimpArgs false
set_option linter.unusedVariables false

/-- The bit j of a byte, from the greatest on. -/
def bitB (b : UInt8) (j : Nat) : Bool := decide (b.toNat / 2 ^ (7 - j) % 2 = 1)
def maskN (j : Nat) : Nat := 128 / 2 ^ j
def setB (b : UInt8) (j : Nat) (v : Bool) : UInt8 := if v then b ||| UInt8.ofNat (maskN j) else b &&& ~~~ (UInt8.ofNat (maskN j))
theorem set_bit (b : UInt8) {i j : Nat} (v : Bool) (hi : i < 8) (hj : j < 8) : bitB (setB b i v) j = if j = i then v else bitB b j := by
  have key : ∀ n : Nat, n < 256 → ∀ i, i < 8 → ∀ j, j < 8 → (bitB (setB (UInt8.ofNat n) i true) j = if j = i then true else bitB (UInt8.ofNat n) j) ∧ (bitB (setB (UInt8.ofNat n) i false) j = if j = i then false else bitB (UInt8.ofNat n) j) := by decide +kernel
  have h := key b.toNat b.toNat_lt i hi j hj
  rw [UInt8.ofNat_toNat] at h
  cases v
  · exact h.2
  · exact h.1
theorem byte_ext {a b : UInt8} (h : ∀ j, j < 8 → bitB a j = bitB b j) : a = b := by
  have key : ∀ n : Nat, n < 256 → n = (if bitB (UInt8.ofNat n) 0 then 128 else 0) + (if bitB (UInt8.ofNat n) 1 then 64 else 0) + (if bitB (UInt8.ofNat n) 2 then 32 else 0) + (if bitB (UInt8.ofNat n) 3 then 16 else 0) + (if bitB (UInt8.ofNat n) 4 then 8 else 0) + (if bitB (UInt8.ofNat n) 5 then 4 else 0) + (if bitB (UInt8.ofNat n) 6 then 2 else 0) + (if bitB (UInt8.ofNat n) 7 then 1 else 0) := by decide +kernel
  have ha := key a.toNat a.toNat_lt
  have hb := key b.toNat b.toNat_lt
  rw [UInt8.ofNat_toNat] at ha hb
  apply UInt8.toNat_inj.1
  rw [ha, hb, h 0 (by omega), h 1 (by omega), h 2 (by omega), h 3 (by omega), h 4 (by omega), h 5 (by omega), h 6 (by omega), h 7 (by omega)]
theorem bit_zero (j : Nat) : bitB 0 j = false := by
  unfold bitB
  rw [decide_eq_false_iff_not]
  show ¬ 0 / 2 ^ (7 - j) % 2 = 1
  rw [Nat.zero_div]
  omega
/-- The bit i of a row of bytes. -/
def bitL (s : List UInt8) (i : Nat) : Bool := bitB (s.getD (i / 8) 0) (i % 8)
def setL (s : List UInt8) (i : Nat) (v : Bool) : List UInt8 := s.set (i / 8) (setB (s.getD (i / 8) 0) (i % 8) v)
theorem setL_len (s : List UInt8) (i : Nat) (v : Bool) : (setL s i v).length = s.length := by unfold setL; simp
theorem bitL_set {s : List UInt8} {i : Nat} (v : Bool) (h : i / 8 < s.length) (j : Nat) : bitL (setL s i v) j = if j = i then v else bitL s j := by
  unfold bitL setL
  rw [List.getD_eq_getElem?_getD, List.getElem?_set]
  by_cases e : i / 8 = j / 8
  · rw [if_pos e, if_pos (by omega)]
    simp only [Option.getD_some]
    rw [set_bit _ _ (by omega) (by omega), e]
    by_cases e2 : j = i
    · subst e2; rw [if_pos rfl, if_pos rfl]
    · rw [if_neg (by omega), if_neg e2]
  · rw [if_neg e, if_neg (by intro q; subst q; exact e rfl), ← List.getD_eq_getElem?_getD]
theorem rows_ext : ∀ {s t : List UInt8}, s.length = t.length → (∀ i, i < 8 * s.length → bitL s i = bitL t i) → s = t := by
  intro s t hl h
  apply List.ext_getElem hl
  intro k h1 h2
  apply byte_ext
  intro j hj
  have := h (8 * k + j) (by omega)
  unfold bitL at this
  rw [show (8 * k + j) / 8 = k by omega, show (8 * k + j) % 8 = j by omega, List.getD_eq_getElem?_getD, List.getD_eq_getElem?_getD, List.getElem?_eq_getElem h1, List.getElem?_eq_getElem h2] at this
  exact this
theorem bitL_zero (k i : Nat) : bitL (List.replicate k 0) i = false := by
  unfold bitL
  rw [List.getD_eq_getElem?_getD, List.getElem?_replicate]
  split <;> exact bit_zero _
/-- A row of bytes that is a field of n bits. -/
structure FieldOf (n : Nat) (s : List UInt8) : Prop where
  len : s.length = (n + 7) / 8
  rest : ∀ i, n ≤ i → bitL s i = false
theorem bitL_out {s : List UInt8} {i : Nat} (h : 8 * s.length ≤ i) : bitL s i = false := by
  unfold bitL
  rw [List.getD_eq_getElem?_getD, List.getElem?_eq_none (by omega)]
  exact bit_zero _
theorem FieldOf.set {n : Nat} {s : List UInt8} (h : FieldOf n s) {i : Nat} (hi : i < n) (v : Bool) : FieldOf n (setL s i v) := by
  have hl := h.len
  refine ⟨by rw [setL_len]; exact hl, fun j hj => ?_⟩
  rw [bitL_set v (by omega), if_neg (by omega)]
  exact h.rest j hj
theorem FieldOf.bit_set {n : Nat} {s : List UInt8} (h : FieldOf n s) {i : Nat} (hi : i < n) (v : Bool) (j : Nat) : bitL (setL s i v) j = if j = i then v else bitL s j :=
  bitL_set v (by have := h.len; omega) j
theorem FieldOf.zero (n : Nat) : FieldOf n (List.replicate ((n + 7) / 8) 0) := ⟨by simp, fun _ _ => bitL_zero _ _⟩
theorem FieldOf.ext {n : Nat} {s t : List UInt8} (h : FieldOf n s) (k : FieldOf n t) (hb : ∀ i, i < n → bitL s i = bitL t i) : s = t := by
  refine rows_ext (h.len.trans k.len.symm) (fun i hi => ?_)
  by_cases hn : i < n
  · exact hb i hn
  · rw [h.rest i (by omega), k.rest i (by omega)]
end Go.Proofs.YtbgmkplpolgebaaGreatDoor

namespace Go.Proofs.YtbgmkplpolgebaaGreatDoor
set_option linter.unusedSimpArgs false
set_option linter.unusedVariables false

/-- The numbers of the bits that are set, below n. -/
def numsL (n : Nat) (s : List UInt8) : List Nat := (List.range n).filter (fun i => bitL s i)
theorem numsL_succ (n : Nat) (s : List UInt8) : numsL (n + 1) s = numsL n s ++ (if bitL s n = true then [n] else []) := by
  unfold numsL
  rw [List.range_succ, List.filter_append]
  congr 1
  cases h : bitL s n <;> simp [h]
theorem numsL_lt {n : Nat} {s : List UInt8} {i : Nat} (h : i ∈ numsL n s) : i < n := by
  unfold numsL at h
  have := (List.mem_filter.1 h).1
  simpa using this
/-- One number more behind runs. -/
def runPut (R : List (Int × Int)) (i : Nat) : List (Int × Int) :=
  match R.getLast? with
  | some r => if r.1 + r.2 = (i : Int) then R.dropLast ++ [(r.1, r.2 + 1)] else R ++ [((i : Int), 1)]
  | none => [((i : Int), 1)]
def runsN (N : List Nat) : List (Int × Int) := N.foldl runPut []
def runsF (n : Nat) (s : List UInt8) : List (Int × Int) := runsN (numsL n s)
theorem runsN_snoc (N : List Nat) (i : Nat) : runsN (N ++ [i]) = runPut (runsN N) i := by
  unfold runsN
  rw [List.foldl_append]
  rfl
theorem runPut_nil (i : Nat) : runPut [] i = [((i : Int), 1)] := rfl
theorem runPut_on (R : List (Int × Int)) (r : Int × Int) (i : Nat) (h : r.1 + r.2 = (i : Int)) : runPut (R ++ [r]) i = R ++ [(r.1, r.2 + 1)] := by
  unfold runPut
  rw [List.getLast?_concat]
  simp [h]
theorem runPut_new (R : List (Int × Int)) (r : Int × Int) (i : Nat) (h : r.1 + r.2 ≠ (i : Int)) : runPut (R ++ [r]) i = R ++ [r] ++ [((i : Int), 1)] := by
  unfold runPut
  rw [List.getLast?_concat]
  simp [h]
theorem snoc_form (R : List (Int × Int)) : R = [] ∨ ∃ A r, R = A ++ [r] := by
  rcases List.eq_nil_or_concat R with h | ⟨A, r, h⟩
  · exact .inl h
  · exact .inr ⟨A, r, by rw [h]; simp⟩
theorem snoc_ind {α : Type} {p : List α → Prop} (h0 : p []) (h1 : ∀ N i, p N → p (N ++ [i])) : ∀ (k : Nat) (N : List α), N.length = k → p N
  | 0, N, h => by
    obtain rfl : N = [] := List.eq_nil_of_length_eq_zero h
    exact h0
  | k + 1, N, h => by
    rcases List.eq_nil_or_concat N with e | ⟨A, r, e⟩
    · subst e
      cases h
    · rw [List.concat_eq_append] at e
      subst e
      exact h1 A r (snoc_ind h0 h1 k A (by simpa using h))
/-- Runs of numbers below n: each in its bounds. -/
theorem runs_good {n : Nat} (N : List Nat) : (∀ i ∈ N, i < n) → (∀ r ∈ runsN N, 0 ≤ r.1 ∧ 1 ≤ r.2 ∧ r.1 + r.2 ≤ n) ∧ (runsN N).length ≤ N.length := by
  refine snoc_ind (p := fun N => (∀ i ∈ N, i < n) → (∀ r ∈ runsN N, 0 ≤ r.1 ∧ 1 ≤ r.2 ∧ r.1 + r.2 ≤ n) ∧ (runsN N).length ≤ N.length) ?_ ?_ N.length N rfl
  · intro _; simp [runsN]
  · intro N i ih h
    obtain ⟨h1, h2⟩ := ih (fun j hj => h j (by simp [hj]))
    have hi := h i (by simp)
    rw [runsN_snoc]
    rcases snoc_form (runsN N) with e | ⟨A, r, e⟩
    · rw [e, runPut_nil]
      refine ⟨fun r hr => ?_, by simp⟩
      simp only [List.mem_singleton] at hr
      subst hr
      simp only
      omega
    · have hr := h1 r (by rw [e]; simp)
      rw [e] at h2
      by_cases q : r.1 + r.2 = (i : Int)
      · rw [e, runPut_on _ _ _ q]
        refine ⟨fun x hx => ?_, by simp at h2 ⊢; omega⟩
        rcases List.mem_append.1 hx with hx | hx
        · exact h1 x (by rw [e]; simp [hx])
        · simp only [List.mem_singleton] at hx
          subst hx
          simp only
          omega
      · rw [e, runPut_new _ _ _ q]
        refine ⟨fun x hx => ?_, by simp at h2 ⊢; omega⟩
        rcases List.mem_append.1 hx with hx | hx
        · exact h1 x (by rw [e]; exact hx)
        · simp only [List.mem_singleton] at hx
          subst hx
          simp only
          omega
/-- The bits from a on, c of them, are set. -/
def fillL (s : List UInt8) (a : Nat) : Nat → List UInt8
  | 0 => s
  | c + 1 => setL (fillL s a c) (a + c) true
theorem fill_field {n : Nat} {s : List UInt8} (h : FieldOf n s) (a : Nat) : ∀ (c : Nat), a + c ≤ n → FieldOf n (fillL s a c)
  | 0, _ => h
  | c + 1, hc => (fill_field h a c (by omega)).set (by omega) true
theorem fill_bit {n : Nat} {s : List UInt8} (h : FieldOf n s) (a : Nat) : ∀ (c : Nat), a + c ≤ n → ∀ j, bitL (fillL s a c) j = (bitL s j || (decide (a ≤ j) && decide (j < a + c)))
  | 0, _, j => by
    have : (decide (a ≤ j) && decide (j < a + 0)) = false := by
      rw [Bool.and_eq_false_iff, decide_eq_false_iff_not, decide_eq_false_iff_not]
      omega
    rw [this, Bool.or_false]
    rfl
  | c + 1, hc, j => by
    show bitL (setL (fillL s a c) (a + c) true) j = _
    rw [(fill_field h a c (by omega)).bit_set (by omega) true, fill_bit h a c (by omega) j]
    by_cases e : j = a + c
    · rw [if_pos e]
      have : (decide (a ≤ j) && decide (j < a + (c + 1))) = true := by
        rw [Bool.and_eq_true, decide_eq_true_eq, decide_eq_true_eq]
        omega
      rw [this, Bool.or_true]
    · rw [if_neg e]
      congr 1
      congr 1
      rw [decide_eq_decide]
      omega
/-- What is wrong with a run. -/
def runBad (n : Nat) (r : Int × Int) : Bool := decide (r.2 < 1) || decide (r.1 < 0) || decide ((n : Int) < r.1) || decide ((n : Int) - r.1 < r.2)
/-- One run more in a field. -/
def frStep (n : Nat) (st : Int × List UInt8) (r : Int × Int) : Except Int (Int × List UInt8) :=
  if runBad n r = true then .error 7 else if r.1 < st.1 then .error 6 else .ok (r.1 + r.2, fillL st.2 r.1.toNat r.2.toNat)
def frS (n : Nat) : List (Int × Int) → Int × List UInt8 → Except Int (Int × List UInt8)
  | [], st => .ok st
  | r :: R, st => match frStep n st r with
    | .error k => .error k
    | .ok st' => frS n R st'
def zerosL (n : Nat) : List UInt8 := List.replicate ((n + 7) / 8) 0
/-- The field of runs. -/
def frR (n : Nat) (R : List (Int × Int)) : Except Int (List UInt8) := match frS n R (0, zerosL n) with
  | .error k => .error k
  | .ok st => .ok st.2
theorem frS_app (n : Nat) : ∀ (A B : List (Int × Int)) (st : Int × List UInt8), frS n (A ++ B) st = (match frS n A st with
    | .error k => Except.error k
    | .ok st' => frS n B st')
  | [], B, st => rfl
  | r :: A, B, st => by
    show (match frStep n st r with | .error k => Except.error k | .ok st' => frS n (A ++ B) st') = (match (match frStep n st r with | .error k => Except.error k | .ok st' => frS n A st') with | .error k => Except.error k | .ok st' => frS n B st')
    cases frStep n st r with
    | error k => rfl
    | ok st' => exact frS_app n A B st'
theorem frS_field {n : Nat} : ∀ (R : List (Int × Int)) (st st' : Int × List UInt8), FieldOf n st.2 → frS n R st = .ok st' → FieldOf n st'.2
  | [], st, st', h, e => by
    injection e with e
    subst e
    exact h
  | r :: R, st, st', h, e => by
    simp only [frS] at e
    unfold frStep at e
    by_cases h1 : runBad n r = true
    · rw [if_pos h1] at e
      cases e
    · rw [if_neg h1] at e
      by_cases h2 : r.1 < st.1
      · rw [if_pos h2] at e
        cases e
      · rw [if_neg h2] at e
        refine frS_field R _ st' ?_ e
        refine fill_field h _ _ ?_
        simp only [runBad, Bool.or_eq_true, decide_eq_true_eq] at h1
        omega
theorem frR_field {n : Nat} {R : List (Int × Int)} {s : List UInt8} (h : frR n R = .ok s) : FieldOf n s := by
  unfold frR at h
  cases e : frS n R (0, zerosL n) with
  | error k => rw [e] at h; cases h
  | ok st =>
    rw [e] at h
    injection h with h
    subst h
    exact frS_field R _ st (FieldOf.zero n) e
theorem frS_one {n : Nat} {st : Int × List UInt8} {r : Int × Int} (h1 : 1 ≤ r.2) (h2 : 0 ≤ r.1) (h3 : r.1 + r.2 ≤ n) (h4 : st.1 ≤ r.1) : frS n [r] st = .ok (r.1 + r.2, fillL st.2 r.1.toNat r.2.toNat) := by
  have hb : ¬ runBad n r = true := by
    simp only [runBad, Bool.or_eq_true, decide_eq_true_eq]
    omega
  simp only [frS]
  unfold frStep
  rw [if_neg hb, if_neg (by omega)]
/-- The runs of a field make the field. -/
theorem runs_make {n : Nat} {s : List UInt8} (h : FieldOf n s) : ∀ k, k ≤ n → ∃ st, frS n (runsN (numsL k s)) (0, zerosL n) = .ok st ∧ 0 ≤ st.1 ∧ st.1 ≤ k ∧ (∀ j, bitL st.2 j = (bitL s j && decide (j < k))) ∧ (∀ A r, runsN (numsL k s) = A ++ [r] → r.1 + r.2 = st.1 ∧ 0 ≤ r.1 ∧ 1 ≤ r.2)
  | 0, _ => by
    refine ⟨(0, zerosL n), rfl, Int.le_refl _, Int.le_refl _, fun j => ?_, fun A r e => ?_⟩
    · show bitL (zerosL n) j = _
      unfold zerosL
      rw [bitL_zero]
      simp
    · simp [numsL, runsN] at e
  | k + 1, hk => by
    obtain ⟨st, h1, h2, h3, h4, h5⟩ := runs_make h k (by omega)
    have hf := frS_field _ _ st (FieldOf.zero n) h1
    rw [numsL_succ]
    by_cases hb : bitL s k = true
    · rw [if_pos hb, runsN_snoc]
      have hlast : ∀ j, (bitL s j && decide (j < k) || (decide (k ≤ j) && decide (j < k + 1))) = (bitL s j && decide (j < k + 1)) := by
        intro j
        by_cases e1 : j < k
        · have e2 : j < k + 1 := by omega
          have e3 : ¬ k ≤ j := by omega
          simp [e1, e2, e3]
        · by_cases e2 : j = k
          · subst e2
            simp [hb]
          · have e3 : ¬ j < k + 1 := by omega
            simp [e1, e3]
      rcases snoc_form (runsN (numsL k s)) with e | ⟨A, r, e⟩
      · rw [e] at h1
        injection h1 with h1
        subst h1
        rw [e, runPut_nil]
        refine ⟨((k : Int) + 1, fillL (zerosL n) k 1), ?_, by simp only; omega, by simp, fun j => ?_, fun A r q => ?_⟩
        · exact frS_one (r := ((k : Int), 1)) (by simp only; omega) (by simp only; omega) (by simp only; omega) (by simp only; omega)
        · show bitL (fillL (zerosL n) k 1) j = _
          rw [fill_bit (show FieldOf n (zerosL n) from FieldOf.zero n) k 1 (by omega), ← hlast j, ← h4 j]
        · have := congrArg List.getLast? q
          simp at this
          subst this
          exact ⟨rfl, Int.natCast_nonneg _, Int.le_refl _⟩
      · obtain ⟨g1, g2, g3⟩ := h5 A r e
        by_cases q : r.1 + r.2 = (k : Int)
        · rw [e, runPut_on _ _ _ q]
          rw [e, frS_app] at h1
          cases e1 : frS n A (0, zerosL n) with
          | error x => rw [e1] at h1; cases h1
          | ok st1 =>
            rw [e1] at h1
            simp only at h1
            have hst : st1.1 ≤ r.1 := by
              simp only [frS] at h1
              unfold frStep at h1
              by_cases c1 : runBad n r = true
              · rw [if_pos c1] at h1
                cases h1
              · rw [if_neg c1] at h1
                by_cases c2 : r.1 < st1.1
                · rw [if_pos c2] at h1
                  cases h1
                · omega
            rw [frS_one g3 g2 (by omega) hst] at h1
            injection h1 with h1
            subst h1
            have hf1 := frS_field _ _ st1 (FieldOf.zero n) e1
            refine ⟨(r.1 + (r.2 + 1), fillL st1.2 r.1.toNat (r.2 + 1).toNat), ?_, by simp only at *; omega, by simp only at *; omega, fun j => ?_, fun A' r' q' => ?_⟩
            · rw [frS_app, e1]
              exact frS_one (r := (r.1, r.2 + 1)) (by simp only; omega) g2 (by simp only; omega) hst
            · show bitL (fillL st1.2 r.1.toNat (r.2 + 1).toNat) j = _
              have e5 : (r.2 + 1).toNat = r.2.toNat + 1 := by omega
              rw [e5]
              show bitL (setL (fillL st1.2 r.1.toNat r.2.toNat) (r.1.toNat + r.2.toNat) true) j = _
              rw [(fill_field hf1 _ _ (by omega)).bit_set (by omega) true]
              have h4j := h4 j
              simp only at h4j
              rw [h4j]
              have e6 : r.1.toNat + r.2.toNat = k := by omega
              rw [e6]
              by_cases e7 : j = k
              · subst e7
                rw [if_pos rfl, hb]
                simp
              · rw [if_neg e7]
                congr 1
                rw [decide_eq_decide]
                omega
            · have := congrArg List.getLast? q'
              simp at this
              subst this
              exact ⟨rfl, g2, by simp only; omega⟩
        · rw [e, runPut_new _ _ _ q, ← e]
          refine ⟨((k : Int) + 1, fillL st.2 k 1), ?_, by simp only; omega, by simp, fun j => ?_, fun A' r' q' => ?_⟩
          · rw [frS_app, h1]
            exact frS_one (r := ((k : Int), 1)) (by simp only; omega) (by simp only; omega) (by simp only; omega) (by simp only; omega)
          · show bitL (fillL st.2 k 1) j = _
            rw [fill_bit hf k 1 (by omega), h4 j, hlast j]
          · have := congrArg List.getLast? q'
            simp at this
            subst this
            exact ⟨rfl, Int.natCast_nonneg _, Int.le_refl _⟩
    · rw [if_neg hb, List.append_nil]
      refine ⟨st, h1, h2, by omega, fun j => ?_, h5⟩
      rw [h4 j]
      by_cases e : j = k
      · subst e
        have : bitL s j = false := by simpa using hb
        rw [this]
        rfl
      · congr 1
        rw [decide_eq_decide]
        omega
theorem frR_runs {n : Nat} {s : List UInt8} (h : FieldOf n s) : frR n (runsF n s) = .ok s := by
  obtain ⟨st, h1, -, -, h4, -⟩ := runs_make h n (Nat.le_refl _)
  unfold frR runsF
  rw [h1]
  have hf := frS_field _ _ st (FieldOf.zero n) h1
  show Except.ok st.2 = .ok s
  congr 1
  refine hf.ext h (fun i hi => ?_)
  rw [h4 i, decide_eq_true hi, Bool.and_true]
end Go.Proofs.YtbgmkplpolgebaaGreatDoor
