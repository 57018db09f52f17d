/-
  Several texts in one, in their build order. Texts of lists of files, told in plain words: cut at a byte, lines, numbers, what is written and read. Plain Lean, no program. No condition.
-/
import Derived.Test.YtnhgichiedninaaGreatDoorM14
import Derived.Lib.SplitLaws
import Derived.Lib.Split
import Derived.Lib.AtoiAll
namespace Go.Proofs.YtnhgichiedninaaGreatDoor
set_option linter.unusedSimpArgs false
set_option linter.unusedVariables false

def consHead (b : UInt8) : List (List UInt8) → List (List UInt8)
  | [] => [[b]]
  | h :: t => (b :: h) :: t
/-- A text cut at each c; 'sv' stays at the end of a piece that ends so. -/
def pieces (sv : List UInt8) (c : UInt8) : List UInt8 → List (List UInt8)
  | [] => [[]]
  | b :: l => if b = c then sv :: pieces sv c l else consHead b (pieces sv c l)
theorem consHead_ne (b : UInt8) (L : List (List UInt8)) : consHead b L ≠ [] := by cases L <;> simp [consHead]
theorem pieces_ne (sv : List UInt8) (c : UInt8) (s : List UInt8) : pieces sv c s ≠ [] := by
  cases s with
  | nil => simp [pieces]
  | cons b l =>
    rw [pieces]
    split
    · simp
    · exact consHead_ne _ _
theorem byte_some {l : List UInt8} {c : UInt8} (h : 0 < l.count c) : ∃ i : Nat, Lib.indexByte l c = i := by
  have h1 := Lib.indexByte_ge l c
  by_cases e : Lib.indexByte l c = -1
  · have hm : c ∈ l := List.count_pos_iff.1 h
    obtain ⟨k, hk, e2⟩ := List.mem_iff_getElem.1 hm
    exact absurd (by rw [List.getElem?_eq_getElem hk, e2]) (Lib.indexByte_none e k)
  · exact Int.eq_ofNat_of_zero_le (by omega)
theorem splitK_one (c : UInt8) (save : Nat) (hs : save ≤ 1) : ∀ s : List UInt8, Lib.splitK [c] save (s.count c) s = pieces (if save = 0 then [] else [c]) c s
  | [] => by simp [Lib.splitK, pieces]
  | b :: l => by
    have ih := splitK_one c save hs l
    by_cases e : b = c
    · subst e
      have h0 : Lib.index (b :: l) [b] = 0 := by rw [Lib.index_one]; simp [Lib.indexByte]
      rw [List.count_cons_self, Lib.splitK, h0, pieces, if_pos rfl]
      simp only [show ((0 : Int) == -1) = false from rfl, Bool.false_eq_true, if_false, Int.toNat_zero, Nat.zero_add, List.length_singleton, List.drop_succ_cons, List.drop_zero]
      rw [ih]
      congr 1
      rcases Nat.le_one_iff_eq_zero_or_eq_one.1 hs with rfl | rfl <;> simp
    · rw [List.count_cons_of_ne e, pieces, if_neg e, ← ih]
      cases hk : l.count c with
      | zero => simp [Lib.splitK, consHead]
      | succ m =>
        obtain ⟨i, hi⟩ := byte_some (l := l) (c := c) (by omega)
        have h1 : Lib.index l [c] = i := by rw [Lib.index_one, hi]
        have h2 : Lib.index (b :: l) [c] = ((i + 1 : Nat) : Int) := by
          rw [Lib.index_one, Lib.indexByte, hi]
          have e1 : (b == c) = false := by simpa using e
          have e2 : ((i : Int) == -1) = false := by simp
          rw [e1, e2]
          simp
        have e3 : ((i : Int) == -1) = false := by simp
        have e4 : (((i + 1 : Nat) : Int) == -1) = false := by rw [beq_eq_false_iff_ne]; omega
        rw [Lib.splitK, Lib.splitK, h1, h2, e3, e4]
        simp only [Bool.false_eq_true, if_false, Int.toNat_natCast, List.length_singleton, consHead]
        have e5 : i + 1 + save = (i + save) + 1 := by omega
        rw [e5, List.take_succ_cons, List.drop_succ_cons]
/-- What is before the first c, what is behind it, and whether there is one. -/
def cutB (c : UInt8) : List UInt8 → List UInt8 × List UInt8 × Bool
  | [] => ([], [], false)
  | b :: l => if b = c then ([], l, true) else (b :: (cutB c l).1, (cutB c l).2.1, (cutB c l).2.2)
theorem cut_one (c : UInt8) : ∀ s : List UInt8, Lib.cut s [c] = cutB c s
  | [] => by simp [Lib.cut, Lib.index, cutB]
  | b :: l => by
    have ih := cut_one c l
    have hge := Lib.indexByte_ge l c
    rw [cutB, ← ih]
    unfold Lib.cut
    rw [Lib.index_one, Lib.index_one, Lib.indexByte]
    by_cases e : b = c
    · subst e
      simp
    · have e1 : (b == c) = false := by simpa using e
      rw [e1, if_neg e]
      by_cases e2 : Lib.indexByte l c = -1
      · rw [e2]
        simp
      · have e3 : (Lib.indexByte l c == -1) = false := by simpa using e2
        obtain ⟨i, hi⟩ := Int.eq_ofNat_of_zero_le (show 0 ≤ Lib.indexByte l c by omega)
        rw [e3, hi]
        have h4 : (0 : Int) ≤ (i : Int) + 1 := by omega
        have h5 : ((i : Int) + 1).toNat = i + 1 := by omega
        simp only [Bool.false_eq_true, if_false, h4, if_true, h5, Int.natCast_nonneg, Int.toNat_natCast, List.take_succ_cons, List.length_singleton]
        rfl
def isDig (b : UInt8) : Bool := decide (48 ≤ b.toNat) && decide (b.toNat ≤ 57)
def decFrom (a : Nat) (ds : List UInt8) : Nat := ds.foldl (fun a b => a * 10 + (b.toNat - 48)) a
def decVal (ds : List UInt8) : Nat := decFrom 0 ds
def canon (ds : List UInt8) : Bool := !decide (ds = []) && (decide (ds = [48]) || !decide (ds.head? = some 48))
def padOfL (L : List UInt8) : Bool := decide (L.head? = some 42)
def restOfL (L : List UInt8) : List UInt8 := if padOfL L then L.tail else L
/-- A line by its form: is it a pad's, its number's digits, its path. -/
def lineP (L : List UInt8) : Option (Bool × List UInt8 × List UInt8) :=
  if (cutB 32 (restOfL L)).2.2 && (cutB 32 (restOfL L)).1.all isDig && canon (cutB 32 (restOfL L)).1 then some (padOfL L, (cutB 32 (restOfL L)).1, (cutB 32 (restOfL L)).2.1) else none
def lenP (ds : List UInt8) : Int := if decVal ds ≤ 9223372036854775807 then decVal ds else 65537
def lenR (ds : List UInt8) : Int := if decVal ds ≤ 65536 then decVal ds else 65537
def mkB (l : List UInt8) : ByteArray := ⟨l.toArray⟩
def pathP (r : List UInt8) : List ByteArray := (pieces [] 47 r).map mkB
def fileP (x : Bool × List UInt8 × List UInt8) : FileV := ⟨pathP x.2.2, lenP x.2.1, x.1⟩
def fileR (x : Bool × List UInt8 × List UInt8) : FileV := ⟨pathP x.2.2, lenR x.2.1, x.1⟩
def filesP (Ls : List (List UInt8)) : List FileV := Ls.filterMap fun L => (lineP L).map fileP
def filesR (Ls : List (List UInt8)) : List FileV := Ls.filterMap fun L => (lineP L).map fileR
/-- The lines that are ended, and what is behind the last line's end. -/
def linesOf (s : List UInt8) : List (List UInt8) := (pieces [] 10 s).dropLast
def tailOf (s : List UInt8) : List UInt8 := ((pieces [] 10 s).getLast?).getD []
def badAt : List (List UInt8) → Nat → Option Nat
  | [], _ => none
  | L :: r, i => if (lineP L).isSome then badAt r (i + 1) else some i
/-- What Parse answers: the list, the line, the error. -/
def parseL (s : List UInt8) : List FileV :=
  match badAt (linesOf s) 0 with | some _ => [] | none => if tailOf s = [] then (if validOf (filesP (linesOf s)) then filesP (linesOf s) else []) else []
def parseLine (s : List UInt8) : Int :=
  match badAt (linesOf s) 0 with | some i => i | none => if tailOf s = [] then (if validOf (filesP (linesOf s)) then 0 else (linesOf s).length) else (linesOf s).length
def parseErr (s : List UInt8) : Int :=
  match badAt (linesOf s) 0 with | some _ => 2 | none => if tailOf s = [] then (if validOf (filesP (linesOf s)) then 0 else 2) else 2
/-- What Format writes. -/
def fmtLine (f : FileV) : List UInt8 := (if f.pad then [42] else []) ++ Lib.itoa f.len ++ [32] ++ (joinB f.path).data.toList ++ [10]
def fmtOf (l : List FileV) : List UInt8 := if validOf l then l.flatMap fmtLine else []

/-! ### lines -/
theorem pieces_app {c : UInt8} (b : List UInt8) : ∀ (a : List UInt8), c ∉ a → pieces [] c (a ++ c :: b) = a :: pieces [] c b := by
  intro a
  induction a with
  | nil => intro _; simp [pieces]
  | cons x a ih =>
    intro h
    have hx : x ≠ c := fun e => h (by rw [e]; exact .head _)
    rw [List.cons_append, pieces, if_neg hx, ih (fun q => h (.tail _ q)), consHead]
theorem pieces_free {c : UInt8} : ∀ (a : List UInt8), c ∉ a → pieces [] c a = [a] := by
  intro a
  induction a with
  | nil => intro _; rfl
  | cons x a ih =>
    intro h
    have hx : x ≠ c := fun e => h (by rw [e]; exact .head _)
    rw [pieces, if_neg hx, ih (fun q => h (.tail _ q)), consHead]
theorem byte_form (c : UInt8) (s : List UInt8) : c ∉ s ∨ ∃ a b, s = a ++ c :: b ∧ c ∉ a := by
  induction s with
  | nil => exact .inl (by simp)
  | cons x r ih =>
    by_cases e : x = c
    · exact .inr ⟨[], r, by rw [e]; rfl, by simp⟩
    · rcases ih with h | ⟨a, b, rfl, h⟩
      · refine .inl (fun q => ?_)
        rcases List.mem_cons.1 q with q | q
        · exact e q.symm
        · exact h q
      · refine .inr ⟨x :: a, b, rfl, fun q => ?_⟩
        rcases List.mem_cons.1 q with q | q
        · exact e q.symm
        · exact h q
theorem lines_app {a b : List UInt8} (h : (10 : UInt8) ∉ a) : linesOf (a ++ 10 :: b) = a :: linesOf b ∧ tailOf (a ++ 10 :: b) = tailOf b := by
  unfold linesOf tailOf
  rw [pieces_app _ _ h]
  have hne := pieces_ne [] 10 b
  constructor
  · rw [List.dropLast_cons_of_ne_nil hne]
  · cases hp : pieces [] 10 b with
    | nil => exact absurd hp hne
    | cons x r => simp
theorem lines_free {a : List UInt8} (h : (10 : UInt8) ∉ a) : linesOf a = [] ∧ tailOf a = a := by
  unfold linesOf tailOf
  rw [pieces_free _ h]
  simp
theorem lines_text : ∀ (n : Nat) (s : List UInt8), s.length ≤ n → s = (linesOf s).flatMap (fun L => L ++ [10]) ++ tailOf s ∧ (∀ L ∈ linesOf s, (10 : UInt8) ∉ L) ∧ (10 : UInt8) ∉ tailOf s
  | 0, s, h => by
    obtain rfl : s = [] := List.eq_nil_of_length_eq_zero (by omega)
    simp [linesOf, tailOf, pieces]
  | n + 1, s, h => by
    rcases byte_form 10 s with hf | ⟨a, b, rfl, ha⟩
    · obtain ⟨h1, h2⟩ := lines_free hf
      rw [h1, h2]
      simp [hf]
    · obtain ⟨h1, h2⟩ := lines_app (b := b) ha
      obtain ⟨i1, i2, i3⟩ := lines_text n b (by simp at h; omega)
      rw [h1, h2]
      refine ⟨?_, ?_, i3⟩
      · rw [List.flatMap_cons, List.append_assoc, ← i1]
        simp
      · intro L hL
        rcases List.mem_cons.1 hL with rfl | hL
        · exact ha
        · exact i2 L hL
theorem lines_of (Ls : List (List UInt8)) (h : ∀ L ∈ Ls, (10 : UInt8) ∉ L) : linesOf (Ls.flatMap fun L => L ++ [10]) = Ls ∧ tailOf (Ls.flatMap fun L => L ++ [10]) = [] := by
  induction Ls with
  | nil => simp [linesOf, tailOf, pieces]
  | cons L r ih =>
    obtain ⟨i1, i2⟩ := ih (fun x hx => h x (by simp [hx]))
    have e : ((L :: r).flatMap fun L => L ++ [10]) = L ++ 10 :: (r.flatMap fun L => L ++ [10]) := by simp
    obtain ⟨h1, h2⟩ := lines_app (a := L) (b := r.flatMap fun L => L ++ [10]) (h L (by simp))
    rw [e, h1, h2, i1, i2]
    exact ⟨rfl, rfl⟩
end Go.Proofs.YtnhgichiedninaaGreatDoor
