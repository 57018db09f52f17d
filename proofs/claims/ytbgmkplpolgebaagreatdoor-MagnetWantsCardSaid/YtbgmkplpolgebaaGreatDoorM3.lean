/-
  Several texts in one, in their build order. Fields of bits and runs of bits told in plain words: the numbers that are set, the runs they make, the field that runs make; runs of a field make the field. Plain Lean, no program. No condition. A range over a function, whatever the iterator and the body do to memory: the statement's law and the round's. Over any program. Conditions: the loop stands in no other loop's round; the rounds defer nothing. A region that draws its order, within a round of a range over a function: the held orders of the plain walk serve there too. Over any program. Condition: none of its operations defers. A region that draws its order, in the fence that asks nothing: the held orders of the plain walk serve there too. Over any program. No condition but that what is asked behind it lets nothing out. Bytes that a call writes into a slice of its own: how they lie, appended, changed, and read back as a text. Condition: as told.
-/
import Derived.Test.YtbgmkplpolgebaaGreatDoorM2
import Derived.Test.YtbgmkplpolgebaaGreatDoorM1
import Derived.RangeFuncNested
import Derived.RangeFuncBound
import Derived.RangeFuncCalls
import Derived.RangeFuncLeaves
import Derived.Shelf.Abstract
import Derived.Shelf.RegionOpen
import Derived.OwnWalkIn
import Derived.TacticsInMore
import Derived.LoopNIn
import Derived.LoopIn
import Derived.OrdersHeld
import Derived.OrdersIn
import Derived.Deep.RegionHeld
import Derived.Laws.BytesArg
import Derived.OwnWalk
import Derived.Deep.Onto
import Derived.Maps.AppendAt
namespace Go.Proofs.YtbgmkplpolgebaaGreatDoor
set_option linter.unusedSimpArgs false
set_option linter.unusedVariables false

/-- The numbers of the bits that are set, below n. -/
def numsL (n : Nat) (s : List UInt8) : List Nat := (List.range n).filter (fun i => bitL s i)
theorem numsL_succ (n : Nat) (s : List UInt8) : numsL (n + 1) s = numsL n s ++ (if bitL s n = true then [n] else []) := by
  unfold numsL
  rw [List.range_succ, List.filter_append]
  congr 1
  cases h : bitL s n <;> simp [h]
theorem numsL_lt {n : Nat} {s : List UInt8} {i : Nat} (h : i ∈ numsL n s) : i < n := by
  unfold numsL at h
  have := (List.mem_filter.1 h).1
  simpa using this
/-- One number more behind runs. -/
def runPut (R : List (Int × Int)) (i : Nat) : List (Int × Int) :=
  match R.getLast? with
  | some r => if r.1 + r.2 = (i : Int) then R.dropLast ++ [(r.1, r.2 + 1)] else R ++ [((i : Int), 1)]
  | none => [((i : Int), 1)]
def runsN (N : List Nat) : List (Int × Int) := N.foldl runPut []
def runsF (n : Nat) (s : List UInt8) : List (Int × Int) := runsN (numsL n s)
theorem runsN_snoc (N : List Nat) (i : Nat) : runsN (N ++ [i]) = runPut (runsN N) i := by
  unfold runsN
  rw [List.foldl_append]
  rfl
theorem runPut_nil (i : Nat) : runPut [] i = [((i : Int), 1)] := rfl
theorem runPut_on (R : List (Int × Int)) (r : Int × Int) (i : Nat) (h : r.1 + r.2 = (i : Int)) : runPut (R ++ [r]) i = R ++ [(r.1, r.2 + 1)] := by
  unfold runPut
  rw [List.getLast?_concat]
  simp [h]
theorem runPut_new (R : List (Int × Int)) (r : Int × Int) (i : Nat) (h : r.1 + r.2 ≠ (i : Int)) : runPut (R ++ [r]) i = R ++ [r] ++ [((i : Int), 1)] := by
  unfold runPut
  rw [List.getLast?_concat]
  simp [h]
theorem snoc_form (R : List (Int × Int)) : R = [] ∨ ∃ A r, R = A ++ [r] := by
  rcases List.eq_nil_or_concat R with h | ⟨A, r, h⟩
  · exact .inl h
  · exact .inr ⟨A, r, by rw [h]; simp⟩
theorem snoc_ind {α : Type} {p : List α → Prop} (h0 : p []) (h1 : ∀ N i, p N → p (N ++ [i])) : ∀ (k : Nat) (N : List α), N.length = k → p N
  | 0, N, h => by
    obtain rfl : N = [] := List.eq_nil_of_length_eq_zero h
    exact h0
  | k + 1, N, h => by
    rcases List.eq_nil_or_concat N with e | ⟨A, r, e⟩
    · subst e
      cases h
    · rw [List.concat_eq_append] at e
      subst e
      exact h1 A r (snoc_ind h0 h1 k A (by simpa using h))
/-- Runs of numbers below n: each in its bounds. -/
theorem runs_good {n : Nat} (N : List Nat) : (∀ i ∈ N, i < n) → (∀ r ∈ runsN N, 0 ≤ r.1 ∧ 1 ≤ r.2 ∧ r.1 + r.2 ≤ n) ∧ (runsN N).length ≤ N.length := by
  refine snoc_ind (p := fun N => (∀ i ∈ N, i < n) → (∀ r ∈ runsN N, 0 ≤ r.1 ∧ 1 ≤ r.2 ∧ r.1 + r.2 ≤ n) ∧ (runsN N).length ≤ N.length) ?_ ?_ N.length N rfl
  · intro _; simp [runsN]
  · intro N i ih h
    obtain ⟨h1, h2⟩ := ih (fun j hj => h j (by simp [hj]))
    have hi := h i (by simp)
    rw [runsN_snoc]
    rcases snoc_form (runsN N) with e | ⟨A, r, e⟩
    · rw [e, runPut_nil]
      refine ⟨fun r hr => ?_, by simp⟩
      simp only [List.mem_singleton] at hr
      subst hr
      simp only
      omega
    · have hr := h1 r (by rw [e]; simp)
      rw [e] at h2
      by_cases q : r.1 + r.2 = (i : Int)
      · rw [e, runPut_on _ _ _ q]
        refine ⟨fun x hx => ?_, by simp at h2 ⊢; omega⟩
        rcases List.mem_append.1 hx with hx | hx
        · exact h1 x (by rw [e]; simp [hx])
        · simp only [List.mem_singleton] at hx
          subst hx
          simp only
          omega
      · rw [e, runPut_new _ _ _ q]
        refine ⟨fun x hx => ?_, by simp at h2 ⊢; omega⟩
        rcases List.mem_append.1 hx with hx | hx
        · exact h1 x (by rw [e]; exact hx)
        · simp only [List.mem_singleton] at hx
          subst hx
          simp only
          omega
/-- The bits from a on, c of them, are set. -/
def fillL (s : List UInt8) (a : Nat) : Nat → List UInt8
  | 0 => s
  | c + 1 => setL (fillL s a c) (a + c) true
theorem fill_field {n : Nat} {s : List UInt8} (h : FieldOf n s) (a : Nat) : ∀ (c : Nat), a + c ≤ n → FieldOf n (fillL s a c)
  | 0, _ => h
  | c + 1, hc => (fill_field h a c (by omega)).set (by omega) true
theorem fill_bit {n : Nat} {s : List UInt8} (h : FieldOf n s) (a : Nat) : ∀ (c : Nat), a + c ≤ n → ∀ j, bitL (fillL s a c) j = (bitL s j || (decide (a ≤ j) && decide (j < a + c)))
  | 0, _, j => by
    have : (decide (a ≤ j) && decide (j < a + 0)) = false := by
      rw [Bool.and_eq_false_iff, decide_eq_false_iff_not, decide_eq_false_iff_not]
      omega
    rw [this, Bool.or_false]
    rfl
  | c + 1, hc, j => by
    show bitL (setL (fillL s a c) (a + c) true) j = _
    rw [(fill_field h a c (by omega)).bit_set (by omega) true, fill_bit h a c (by omega) j]
    by_cases e : j = a + c
    · rw [if_pos e]
      have : (decide (a ≤ j) && decide (j < a + (c + 1))) = true := by
        rw [Bool.and_eq_true, decide_eq_true_eq, decide_eq_true_eq]
        omega
      rw [this, Bool.or_true]
    · rw [if_neg e]
      congr 1
      congr 1
      rw [decide_eq_decide]
      omega
/-- What is wrong with a run. -/
def runBad (n : Nat) (r : Int × Int) : Bool := decide (r.2 < 1) || decide (r.1 < 0) || decide ((n : Int) < r.1) || decide ((n : Int) - r.1 < r.2)
/-- One run more in a field. -/
def frStep (n : Nat) (st : Int × List UInt8) (r : Int × Int) : Except Int (Int × List UInt8) :=
  if runBad n r = true then .error 7 else if r.1 < st.1 then .error 6 else .ok (r.1 + r.2, fillL st.2 r.1.toNat r.2.toNat)
def frS (n : Nat) : List (Int × Int) → Int × List UInt8 → Except Int (Int × List UInt8)
  | [], st => .ok st
  | r :: R, st => match frStep n st r with
    | .error k => .error k
    | .ok st' => frS n R st'
def zerosL (n : Nat) : List UInt8 := List.replicate ((n + 7) / 8) 0
/-- The field of runs. -/
def frR (n : Nat) (R : List (Int × Int)) : Except Int (List UInt8) := match frS n R (0, zerosL n) with
  | .error k => .error k
  | .ok st => .ok st.2
theorem frS_app (n : Nat) : ∀ (A B : List (Int × Int)) (st : Int × List UInt8), frS n (A ++ B) st = (match frS n A st with
    | .error k => Except.error k
    | .ok st' => frS n B st')
  | [], B, st => rfl
  | r :: A, B, st => by
    show (match frStep n st r with | .error k => Except.error k | .ok st' => frS n (A ++ B) st') = (match (match frStep n st r with | .error k => Except.error k | .ok st' => frS n A st') with | .error k => Except.error k | .ok st' => frS n B st')
    cases frStep n st r with
    | error k => rfl
    | ok st' => exact frS_app n A B st'
theorem frS_field {n : Nat} : ∀ (R : List (Int × Int)) (st st' : Int × List UInt8), FieldOf n st.2 → frS n R st = .ok st' → FieldOf n st'.2
  | [], st, st', h, e => by
    injection e with e
    subst e
    exact h
  | r :: R, st, st', h, e => by
    simp only [frS] at e
    unfold frStep at e
    by_cases h1 : runBad n r = true
    · rw [if_pos h1] at e
      cases e
    · rw [if_neg h1] at e
      by_cases h2 : r.1 < st.1
      · rw [if_pos h2] at e
        cases e
      · rw [if_neg h2] at e
        refine frS_field R _ st' ?_ e
        refine fill_field h _ _ ?_
        simp only [runBad, Bool.or_eq_true, decide_eq_true_eq] at h1
        omega
theorem frR_field {n : Nat} {R : List (Int × Int)} {s : List UInt8} (h : frR n R = .ok s) : FieldOf n s := by
  unfold frR at h
  cases e : frS n R (0, zerosL n) with
  | error k => rw [e] at h; cases h
  | ok st =>
    rw [e] at h
    injection h with h
    subst h
    exact frS_field R _ st (FieldOf.zero n) e
theorem frS_one {n : Nat} {st : Int × List UInt8} {r : Int × Int} (h1 : 1 ≤ r.2) (h2 : 0 ≤ r.1) (h3 : r.1 + r.2 ≤ n) (h4 : st.1 ≤ r.1) : frS n [r] st = .ok (r.1 + r.2, fillL st.2 r.1.toNat r.2.toNat) := by
  have hb : ¬ runBad n r = true := by
    simp only [runBad, Bool.or_eq_true, decide_eq_true_eq]
    omega
  simp only [frS]
  unfold frStep
  rw [if_neg hb, if_neg (by omega)]
/-- The runs of a field make the field. -/
theorem runs_make {n : Nat} {s : List UInt8} (h : FieldOf n s) : ∀ k, k ≤ n → ∃ st, frS n (runsN (numsL k s)) (0, zerosL n) = .ok st ∧ 0 ≤ st.1 ∧ st.1 ≤ k ∧ (∀ j, bitL st.2 j = (bitL s j && decide (j < k))) ∧ (∀ A r, runsN (numsL k s) = A ++ [r] → r.1 + r.2 = st.1 ∧ 0 ≤ r.1 ∧ 1 ≤ r.2)
  | 0, _ => by
    refine ⟨(0, zerosL n), rfl, Int.le_refl _, Int.le_refl _, fun j => ?_, fun A r e => ?_⟩
    · show bitL (zerosL n) j = _
      unfold zerosL
      rw [bitL_zero]
      simp
    · simp [numsL, runsN] at e
  | k + 1, hk => by
    obtain ⟨st, h1, h2, h3, h4, h5⟩ := runs_make h k (by omega)
    have hf := frS_field _ _ st (FieldOf.zero n) h1
    rw [numsL_succ]
    by_cases hb : bitL s k = true
    · rw [if_pos hb, runsN_snoc]
      have hlast : ∀ j, (bitL s j && decide (j < k) || (decide (k ≤ j) && decide (j < k + 1))) = (bitL s j && decide (j < k + 1)) := by
        intro j
        by_cases e1 : j < k
        · have e2 : j < k + 1 := by omega
          have e3 : ¬ k ≤ j := by omega
          simp [e1, e2, e3]
        · by_cases e2 : j = k
          · subst e2
            simp [hb]
          · have e3 : ¬ j < k + 1 := by omega
            simp [e1, e3]
      rcases snoc_form (runsN (numsL k s)) with e | ⟨A, r, e⟩
      · rw [e] at h1
        injection h1 with h1
        subst h1
        rw [e, runPut_nil]
        refine ⟨((k : Int) + 1, fillL (zerosL n) k 1), ?_, by simp only; omega, by simp, fun j => ?_, fun A r q => ?_⟩
        · exact frS_one (r := ((k : Int), 1)) (by simp only; omega) (by simp only; omega) (by simp only; omega) (by simp only; omega)
        · show bitL (fillL (zerosL n) k 1) j = _
          rw [fill_bit (show FieldOf n (zerosL n) from FieldOf.zero n) k 1 (by omega), ← hlast j, ← h4 j]
        · have := congrArg List.getLast? q
          simp at this
          subst this
          exact ⟨rfl, Int.natCast_nonneg _, Int.le_refl _⟩
      · obtain ⟨g1, g2, g3⟩ := h5 A r e
        by_cases q : r.1 + r.2 = (k : Int)
        · rw [e, runPut_on _ _ _ q]
          rw [e, frS_app] at h1
          cases e1 : frS n A (0, zerosL n) with
          | error x => rw [e1] at h1; cases h1
          | ok st1 =>
            rw [e1] at h1
            simp only at h1
            have hst : st1.1 ≤ r.1 := by
              simp only [frS] at h1
              unfold frStep at h1
              by_cases c1 : runBad n r = true
              · rw [if_pos c1] at h1
                cases h1
              · rw [if_neg c1] at h1
                by_cases c2 : r.1 < st1.1
                · rw [if_pos c2] at h1
                  cases h1
                · omega
            rw [frS_one g3 g2 (by omega) hst] at h1
            injection h1 with h1
            subst h1
            have hf1 := frS_field _ _ st1 (FieldOf.zero n) e1
            refine ⟨(r.1 + (r.2 + 1), fillL st1.2 r.1.toNat (r.2 + 1).toNat), ?_, by simp only at *; omega, by simp only at *; omega, fun j => ?_, fun A' r' q' => ?_⟩
            · rw [frS_app, e1]
              exact frS_one (r := (r.1, r.2 + 1)) (by simp only; omega) g2 (by simp only; omega) hst
            · show bitL (fillL st1.2 r.1.toNat (r.2 + 1).toNat) j = _
              have e5 : (r.2 + 1).toNat = r.2.toNat + 1 := by omega
              rw [e5]
              show bitL (setL (fillL st1.2 r.1.toNat r.2.toNat) (r.1.toNat + r.2.toNat) true) j = _
              rw [(fill_field hf1 _ _ (by omega)).bit_set (by omega) true]
              have h4j := h4 j
              simp only at h4j
              rw [h4j]
              have e6 : r.1.toNat + r.2.toNat = k := by omega
              rw [e6]
              by_cases e7 : j = k
              · subst e7
                rw [if_pos rfl, hb]
                simp
              · rw [if_neg e7]
                congr 1
                rw [decide_eq_decide]
                omega
            · have := congrArg List.getLast? q'
              simp at this
              subst this
              exact ⟨rfl, g2, by simp only; omega⟩
        · rw [e, runPut_new _ _ _ q, ← e]
          refine ⟨((k : Int) + 1, fillL st.2 k 1), ?_, by simp only; omega, by simp, fun j => ?_, fun A' r' q' => ?_⟩
          · rw [frS_app, h1]
            exact frS_one (r := ((k : Int), 1)) (by simp only; omega) (by simp only; omega) (by simp only; omega) (by simp only; omega)
          · show bitL (fillL st.2 k 1) j = _
            rw [fill_bit hf k 1 (by omega), h4 j, hlast j]
          · have := congrArg List.getLast? q'
            simp at this
            subst this
            exact ⟨rfl, Int.natCast_nonneg _, Int.le_refl _⟩
    · rw [if_neg hb, List.append_nil]
      refine ⟨st, h1, h2, by omega, fun j => ?_, h5⟩
      rw [h4 j]
      by_cases e : j = k
      · subst e
        have : bitL s j = false := by simpa using hb
        rw [this]
        rfl
      · congr 1
        rw [decide_eq_decide]
        omega
theorem frR_runs {n : Nat} {s : List UInt8} (h : FieldOf n s) : frR n (runsF n s) = .ok s := by
  obtain ⟨st, h1, -, -, h4, -⟩ := runs_make h n (Nat.le_refl _)
  unfold frR runsF
  rw [h1]
  have hf := frS_field _ _ st (FieldOf.zero n) h1
  show Except.ok st.2 = .ok s
  congr 1
  refine hf.ext h (fun i hi => ?_)
  rw [h4 i, decide_eq_true hi, Bool.and_true]
end Go.Proofs.YtbgmkplpolgebaaGreatDoor

namespace Go.Proofs.YtbgmkplpolgebaaGreatDoor
set_option linter.unusedSimpArgs false
set_option linter.unusedVariables false
open Go.RowKit Go.Shelf

/-- The loop's record. -/
def recOf (fn : FuncId) (tmps : Array Value) (ps : Array Tmp) (assign body : Code) (D : Nat) (st : LoopState) (pe : Option Code) : Loop :=
  { state := st, pending := pe, fn, tmps, params := ps, assign, body, defers := D }

/-- What the record rec of a loop bears, whatever its state. -/
def RecIs (rec : LoopState → Option Code → Loop) (fn : FuncId) (tmps : Array Value) (ps : Array Tmp) (assign body : Code) (D : Nat) : Prop := rec = recOf fn tmps ps assign body D

theorem Mod.putObj {S : Nat → Prop} {a b : World} (h : Mod S a b) (r : Nat) (o : Obj) (hr : S r ∨ a.heap.size ≤ r) : Mod S a (b.putObj r o) :=
  ⟨h.os, h.tape, h.output, by have := h.size; simpa using this, fun i hi hn => (World.putObj_heap_other (w := b) (r := r) (k := i) (o := o) (fun e => by subst e; rcases hr with hr | hr; exact hn hr; omega)).trans (h.block i hi hn)⟩
theorem Blk.putObj {w : World} {b : Nat} {cs : Array Value} {t : TypeId} {r : Nat} {o : Obj} (hp : b ≠ r) (h : Blk w b cs t) : Blk (w.putObj r o) b cs t :=
  h.of_heap (World.putObj_heap_other hp)

/-- What is asked behind the iterator: it has come to its end, or a round has left the loop by the jump c. -/
def RangeEnd (F : Fence) (n : Nat) (P : Program) (Q : Exit → Act → World → Prop) (a' : Act) (l D : Nat) (rec : LoopState → Option Code → Loop) (e : Ending) (W : World) : Prop :=
  (∃ v, e = .returned v) ∧ W.heap[D]? = some (.deferred (some [])) ∧
    ((W.heap[l]? = some (.loop (rec .ready none)) ∧ Q .normal a' (W.putObj l (.loop (rec .exhausted none)))) ∨
     (∃ c, W.heap[l]? = some (.loop (rec .done (some c))) ∧ c.wpIn F n P Q a' (W.putObj l (.loop (rec .exhausted (some c))))))

theorem wpIn_range {F : Fence} {n : Nat} {P : Program} {g : Operand} {ps : Array Tmp} {assign body : Code} {Q : Exit → Act → World → Prop} {a : Act} {w : World}
    (hro : F.round = none) (h1 : 1 ≤ n) {gf : Nat} {lb : Array Value} (hg : a.eval g = .func (.func gf) #[] lb) (hFg : F.fn gf) (eg : ∀ args w, (callFunc gf args).run P w = .ok (.enter gf args) w)
    (h : ∀ fn, F.fn fn → ∀ rec : LoopState → Option Code → Loop, RecIs rec fn a.tmps ps assign body w.heap.size → CallsIn F (n - 1) P gf (#[.func (.yield (w.heap.size + 1)) #[] #[]] ++ lb) ((w.alloc (.deferred (some []))).alloc (.loop (rec .ready none)))
      (RangeEnd F n P Q { a with defers := { target := .collected w.heap.size, args := #[] } :: a.defers } (w.heap.size + 1) w.heap.size rec)) :
    (Code.rangeFunc g ps assign body).wpIn F n P Q a w := by
  refine wpIn_rangeFunc ?_
  intro fn hfn
  rw [hro]
  obtain ⟨W1, hW1⟩ : ∃ W1, W1 = (w.alloc (.deferred (some []))).alloc (.loop (recOf fn a.tmps ps assign body w.heap.size .ready none)) := ⟨_, rfl⟩
  refine ⟨w.heap.size + 1, [{ target := .collected w.heap.size, args := #[] }], W1, { target := .fn (.func gf) lb, args := #[.func (.yield (w.heap.size + 1)) #[] #[]] }, W1, gf,
    #[.func (.yield (w.heap.size + 1)) #[] #[]] ++ lb, W1, hW1 ▸ run_enterLoop_outer _ _ _ _ _, ?_, ?_, ?_, fun _ => h1, ?_⟩
  · simp only [resolve, hg]
    simp [go_sem]
  · intro f' hf'; simp [Target.leads] at hf'; subst hf'; exact hFg
  · simp [invoke, go_sem, eg]
  · rw [hW1]
    refine (h fn hfn _ rfl).mono ?_
    rintro e W ⟨⟨v, rfl⟩, hD, ⟨hl, hq⟩ | ⟨c, hl, hq⟩⟩
    · exact ⟨none, _, run_endLoop (P := P) hl (by simp [recOf]), hq⟩
    · exact ⟨some c, _, run_endLoop (P := P) hl (by simp [recOf]), hq⟩

/-- What is asked at a round's end. -/
def RoundEnd (l : Nat) (rec : LoopState → Option Code → Loop) (R : Ending → World → Prop) : Exit → Act → World → Prop
  | .normal, _, w => w.heap[l]? = some (.loop (rec .busy none)) ∧ R (.returned (.bool true)) (w.putObj l (.loop (rec .ready none)))
  | .ret, _, w => w.heap[l]? = some (.loop (rec .busy none)) ∧ R (.returned (.bool false)) (w.putObj l (.loop (rec .done (some .ret))))
  | .exit id, _, w => w.heap[l]? = some (.loop (rec .busy none)) ∧ R (.returned (.bool false)) (w.putObj l (.loop (rec .done (some (.exit id)))))
  | .goto t, _, w => w.heap[l]? = some (.loop (rec .busy none)) ∧ R (.returned (.bool false)) (w.putObj l (.loop (rec .done (some (.goto t)))))
  | .panic _, _, _ => False
  | .outgrown, _, _ => False

theorem yieldAt_round {F : Fence} {m : Nat} {P : Program} {l : Nat} {rec : LoopState → Option Code → Loop} {fn : FuncId} {tmps : Array Value} {ps : Array Tmp} {assign body : Code} {D : Nat} {args : Array Value} {W : World} {R : Ending → World → Prop}
    (hrec : RecIs rec fn tmps ps assign body D) (hl : W.heap[l]? = some (.loop (rec .ready none))) (hs : args.size = ps.size) (hF : F.fn fn)
    (h : assign.wpIn (F.inRound l) m P (Exit.then (fun a₁ w₁ => w₁.heap[l]? = some (.loop (rec .ready none)) ∧ body.wpIn (F.inRound l) m P (RoundEnd l rec R) a₁ (w₁.putObj l (.loop (rec .busy none)))) (fun _ _ _ => False))
      { tmps := (ps.zip args).foldl (fun tmps (t, a) => tmps.setIfInBounds t a) tmps, defers := [] } W) :
    YieldAt F m P l args W R := by
  unfold RecIs at hrec
  subst hrec
  refine ⟨fn, _, assign, body, run_yield hl hs, roundIn_of_wpIn hF (wpIn_mono h ?_)⟩
  intro e a₁ w₁ hq
  cases e with
  | normal =>
    obtain ⟨hl1, hb⟩ := hq
    refine ⟨_, run_beginRound hl1 rfl, wpIn_mono hb ?_⟩
    intro e2 a2 w2 hq2
    cases e2 with
    | normal => exact ⟨_, _, run_endRound none hq2.1, hq2.2⟩
    | ret => exact ⟨_, _, run_endRound (some .ret) hq2.1, hq2.2⟩
    | exit id => exact ⟨_, _, run_endRound (some (.exit id)) hq2.1, hq2.2⟩
    | goto t => exact ⟨_, _, run_endRound (some (.goto t)) hq2.1, hq2.2⟩
    | panic c => exact hq2
    | outgrown => exact hq2
  | ret => exact hq.elim
  | exit id => exact hq.elim
  | goto t => exact hq.elim
  | panic c => exact hq.elim
  | outgrown => exact hq.elim
end Go.Proofs.YtbgmkplpolgebaaGreatDoor

namespace Go.Proofs.YtbgmkplpolgebaaGreatDoor
set_option linter.unusedSimpArgs false
set_option linter.unusedVariables false
open Go.RowKit

theorem rows_wide {n : Nat} {P : Program} {row : String} {args : Array Value} {w : World} {R : Value → World → Prop} (h : Rows P row args w R) : RowsIn Fence.wide n P row args w R :=
  fun c cs _ => let ⟨v, w', r, s⟩ := h c cs; ⟨v, w', r, stepsIn_wide.2 s⟩
theorem wpOp_round {l n : Nat} {P : Program} {ops : Array Oper} {Q : Exit → Act → World → Prop} {i : Nat} {K : Act → World → Prop} {a : Act} {w : World} (hnd : ∀ (j : Nat) o c, ops[j]? = some o → o.op ≠ .defer c) (hno : ¬ LetsOut Q)
    (h : wpOp P ops Q i K a w) : wpOpIn (Fence.wide.inRound l) n P ops Q i K a w := by
  unfold wpOp at h
  unfold wpOpIn
  cases ho : ops[i]? with
  | none => rw [ho] at h; exact h
  | some o =>
    rw [ho] at h
    simp only at h ⊢
    by_cases hw : Region.wanted o (yielded ops a.tmps) = true
    · rw [if_pos hw] at h ⊢
      rcases h with h | ⟨-, h⟩
      · unfold Oper.wp at h
        unfold Oper.wpIn
        refine ⟨fun _ _ => trivial, ?_⟩
        rw [Oper.semAt_eq _ _ _ (fun c => hnd i o c ho)]
        generalize (execOp a.eval o).run P w = r at *
        cases r with
        | ok x w' =>
          cases x <;> simp only [Oper.upon, Oper.uponIn] at h ⊢
          all_goals first
            | exact h
            | exact ⟨fun q => (by simp [Fence.wide] at q), CallsIn.inRound l (callsIn_wide.2 h)⟩
            | exact ⟨fun q => (by simp [Fence.wide] at q), rows_wide h⟩
            | exact h.elim
        | halt x w' => cases x <;> simp only [Oper.upon, Oper.uponIn] at h ⊢ <;> exact h
      · exact absurd h hno
    · rw [if_neg hw] at h ⊢
      exact ⟨fun _ _ => trivial, h⟩
theorem wpAny_round {l n : Nat} {P : Program} {ops : Array Oper} {md : Region.Mode} {Q : Exit → Act → World → Prop} (hnd : ∀ (j : Nat) o c, ops[j]? = some o → o.op ≠ .defer c) (hno : ¬ LetsOut Q) :
    ∀ (fuel : Nat) (listed : Array Bool) (a : Act) (w : World), wpAny P md ops Q fuel listed a w → wpAnyIn (Fence.wide.inRound l) n P md ops Q fuel listed a w
  | 0, _, _, _, h => h
  | fuel + 1, listed, a, w, h => ⟨h.1, fun i hi => wpOpIn_mono (fun a w q => wpAny_round hnd hno fuel _ a w q) (wpOp_round hnd hno (h.2 i hi))⟩
theorem wp_region_round {l n id : Nat} {P : Program} {ops : Array Oper} {Q : Exit → Act → World → Prop} {a : Act} {w : World} (S : World → Prop) (hm : P.follows .mixedOrders = true) (hnd : ∀ (j : Nat) o c, ops[j]? = some o → o.op ≠ .defer c) (hno : ¬ LetsOut Q) (hS : S w.drew)
    (h : S w.drew → wpAnyH P .any ops Q S ops.size (Array.replicate ops.size false) a w.drew) : (Code.region id ops true).wpIn (Fence.wide.inRound l) n P Q a w :=
  wpIn_region_any hm (wpAny_round hnd hno _ _ _ _ (wpAny_of_held _ _ _ _ (h hS)))
/-- None of the operations defers. -/
def noDefer (ops : Array Oper) : Bool := ops.all fun o => match o.op with | .defer _ => false | _ => true
theorem noDefer_spec {ops : Array Oper} (h : noDefer ops = true) : ∀ (j : Nat) o c, ops[j]? = some o → o.op ≠ .defer c := by
  intro j o c hj q
  have := Array.all_eq_true_iff_forall_mem.1 h o (Array.mem_of_getElem? hj)
  rw [q] at this
  simp at this
end Go.Proofs.YtbgmkplpolgebaaGreatDoor

namespace Go.Proofs.YtbgmkplpolgebaaGreatDoor
set_option linter.unusedSimpArgs false
set_option linter.unusedVariables false
open Go.RowKit

theorem obz_set {w : World} {k : Nat} {o : Obj} {p : Addr} {u : Value} (hp : k ≠ p.block) (h : w.heap[k]? = some o) : (w.setCell p u).heap[k]? = some o := (Below.heap_setCell w p u k hp).trans h
theorem obz_put {w : World} {k r : Nat} {o o' : Obj} (hp : k ≠ r) (h : w.heap[k]? = some o) : (w.putObj r o').heap[k]? = some o := (World.putObj_heap_other hp).trans h
end Go.Proofs.YtbgmkplpolgebaaGreatDoor

namespace Go.Proofs.YtbgmkplpolgebaaGreatDoor
set_option linter.unusedSimpArgs false
set_option linter.unusedVariables false
open Go.RowKit

theorem info_byte : (Tryz.prog.info? 5).map (fun i => (i.zero, i.size, i.bytes)) = some (some (.int .u8 0), 1, 1) := by kernel_rfl
def byV (l : List UInt8) : List Value := l.map (fun b => Value.int .u8 (b.toNat : Int))
theorem byV_app (l r : List UInt8) : byV l ++ byV r = byV (l ++ r) := by simp [byV]
/-- The slice v, of the call's own memory from block base on, holds the bytes l. -/
def OwnY (w : World) (base : Nat) (v : Value) (l : List UInt8) : Prop := w.ownsRow base 5 1 v l.length (byV l)
theorem OwnY.nil (w : World) (base : Nat) : OwnY w base (.slice none 0 0) [] := World.ownsRow_nil _ _ _ _
theorem grown_newY {w w' : World} (n : New w w') (row : Option Nat) : w.grownBy w' row := ⟨n.os, n.tape, n.output, n.size, fun k hk _ => n.block k hk (fun x => x)⟩
theorem OwnY.new {w w' : World} {base : Nat} {v : Value} {l : List UInt8} (h : OwnY w base v l) (n : New w w') : OwnY w' base v l := by
  unfold OwnY at *
  cases hv : v.ownBlock with
  | none => exact h.kept (grown_newY n none) (.inl hv)
  | some k => exact h.kept (grown_newY n none) (.inr (by rw [hv]; simp))
theorem OwnY.form {w : World} {base : Nat} {v : Value} {l : List UInt8} (h : OwnY w base v l) : (v = .slice none 0 0 ∧ l = []) ∨ ∃ g cap, v = .slice (some ⟨g, 0, none⟩) l.length cap ∧ base ≤ g ∧ g < w.heap.size ∧ l.length ≤ cap ∧ cap ≤ maxLen ∧ (∀ (i : Nat) (hi : i < l.length), w.cell? ⟨g, i, none⟩ = some (.int .u8 (l[i].toNat : Int))) ∧ ∀ i, w.frozen? ⟨g, i, none⟩ = false := by
  rcases h.2 with ⟨rfl, hn⟩ | ⟨g, cap, cur, rfl, hbg, hg, hnc, hcm, hcs, htake⟩
  · exact .inl ⟨rfl, List.eq_nil_of_length_eq_zero hn⟩
  · refine .inr ⟨g, cap, rfl, hbg, (Array.getElem?_eq_some_iff.1 hg).1, hnc, hcm, fun i hi => ?_, fun i => by simp [World.frozen?, hg]⟩
    have h1 : (byV l)[i]? = some (.int .u8 (l[i].toNat : Int)) := by simp [byV, hi]
    rw [← htake, List.getElem?_take, if_pos (by omega)] at h1
    simp [World.cell?, hg]
    simpa using h1
theorem ownY_text {w : World} {base : Nat} {v : Value} {l : List UInt8} (h : OwnY w base v l) : (convert 42 9 v).run Tryz.prog w = .ok (.string ⟨l.toArray⟩) w := by
  rcases h.form with ⟨rfl, rfl⟩ | ⟨g, cap, rfl, -, -, -, -, hc, -⟩
  · exact run_convert_bytes_nil w 42 5 Tryz.underlying42 Tryz.underlying5 0 0 9 Tryz.underlying9
  · have := run_convert_bytes_arg (P := Tryz.prog) w 42 5 Tryz.underlying42 Tryz.underlying5 g 0 l.length cap (l.map (fun b => (b.toNat : Int))) (by simp) (fun i hi => by
      rw [Nat.zero_add, hc i hi]
      simp [List.getD, hi]) 9 Tryz.underlying9
    rw [this]
    have e : strOfNums (l.map (fun b => (b.toNat : Int))) = ⟨l.toArray⟩ := by
      unfold strOfNums
      rw [List.map_map]
      have : ((fun n : Int => UInt8.ofNat n.toNat) ∘ fun b : UInt8 => (b.toNat : Int)) = id := by
        funext b
        simp
      rw [this, List.map_id]
    rw [e]
theorem list_take_set {α : Type} (l : List α) (n i : Nat) (x : α) (h : i < n) : (l.set i x).take n = (l.take n).set i x := by
  apply List.ext_getElem?
  intro j
  rw [List.getElem?_take, List.getElem?_set, List.getElem?_set, List.getElem?_take, List.length_take]
  by_cases h1 : j < n
  · rw [if_pos h1, if_pos h1]
    by_cases h2 : i = j
    · rw [if_pos h2, if_pos h2]
      by_cases h3 : i < l.length
      · rw [if_pos h3, if_pos (by omega)]
      · rw [if_neg h3, if_neg (by omega)]
    · rw [if_neg h2, if_neg h2]
  · rw [if_neg h1, if_neg h1, if_neg (by omega)]
/-- A byte of it is written anew. -/
theorem OwnY.put {w : World} {base g cap : Nat} {l : List UInt8} (h : OwnY w base (.slice (some ⟨g, 0, none⟩) l.length cap) l) {i : Nat} (hi : i < l.length) (b : UInt8) : OwnY (w.setCell ⟨g, i, none⟩ (.int .u8 (b.toNat : Int))) base (.slice (some ⟨g, 0, none⟩) l.length cap) (l.set i b) := by
  rcases h.2 with ⟨q, -⟩ | ⟨g', cap', cur, q, hbg, hg, hnc, hcm, hcs, htake⟩
  · cases q
  · injection q with q1 q2 q3
    injection q1 with q1
    injection q1 with q1
    subst q1 q3
    have hb : Blk w g cur 5 := hg
    have hs := hb.set i (.int .u8 (b.toNat : Int))
    refine ⟨by simp [byV], .inr ⟨g, cap, cur.setIfInBounds i (.int .u8 (b.toNat : Int)), by rw [List.length_set], hbg, hs, by rw [List.length_set]; exact hnc, hcm, by simpa using hcs, ?_⟩⟩
    rw [List.length_set, Array.toList_setIfInBounds, list_take_set _ _ _ _ (by omega), htake]
    simp [byV, List.map_set]
theorem OwnY.block {w : World} {base g : Nat} {v : Value} {l : List UInt8} (h : OwnY w base v l) (hv : v.ownBlock = some g) : base ≤ g := by
  rcases h.form with ⟨rfl, -⟩ | ⟨g', cap, rfl, h1, -⟩
  · cases hv
  · injection hv with hv
    subst hv
    exact h1
theorem new_grownY {w w0 w' : World} {base : Nat} {v : Value} {l : List UInt8} (h : OwnY w base v l) (hb : w0.heap.size ≤ base) (n : New w0 w) (g : w.grownBy w' v.ownBlock) : New w0 w' :=
  ⟨g.os.trans n.os, g.tape.trans n.tape, g.output.trans n.output, Nat.le_trans n.size g.size, fun k hk hx => (g.block k (Nat.lt_of_lt_of_le hk n.size) (fun q => by have := h.block q.symm; omega)).trans (n.block k hk hx)⟩
theorem new_putY {w w0 : World} {g i : Nat} {u : Value} (n : New w0 w) (hb : w0.heap.size ≤ g) : New w0 (w.setCell ⟨g, i, none⟩ u) := n.set _ _ (.inr hb)
theorem ownY_of {w : World} {base : Nat} {v : Value} {l : List UInt8} (r : List UInt8) (h : w.ownsRow base 5 1 v (l.length + r.length) (byV l ++ byV r)) : OwnY w base v (l ++ r) := by
  unfold OwnY
  rw [List.length_append, ← byV_app]
  exact h
end Go.Proofs.YtbgmkplpolgebaaGreatDoor
