/-
  Several texts in one, in their build order. Texts of lists of files, told in plain words: cut at a byte, lines, numbers, what is written and read. Plain Lean, no program. No condition. The walks of named and Wrong (the reference). Conditions: the file, the list lie as told.
-/
import Derived.Test.YtnhgichiedninaaGreatDoorM27
import Derived.Lib.SplitLaws
import Derived.Lib.Split
import Derived.Lib.AtoiAll
import Derived.Test.YtnhgichiedninaaGreatDoorM20
import Derived.Test.YtnhgichiedninaaGreatDoorM19
import Derived.Deep.RegionHeld3
import Derived.BigQuiet
namespace Go.Proofs.YtnhgichiedninaaGreatDoor
set_option linter.unusedSimpArgs false
set_option linter.unusedVariables false

def consHead (b : UInt8) : List (List UInt8) → List (List UInt8)
  | [] => [[b]]
  | h :: t => (b :: h) :: t
/-- A text cut at each c; 'sv' stays at the end of a piece that ends so. -/
def pieces (sv : List UInt8) (c : UInt8) : List UInt8 → List (List UInt8)
  | [] => [[]]
  | b :: l => if b = c then sv :: pieces sv c l else consHead b (pieces sv c l)
theorem consHead_ne (b : UInt8) (L : List (List UInt8)) : consHead b L ≠ [] := by cases L <;> simp [consHead]
theorem pieces_ne (sv : List UInt8) (c : UInt8) (s : List UInt8) : pieces sv c s ≠ [] := by
  cases s with
  | nil => simp [pieces]
  | cons b l =>
    rw [pieces]
    split
    · simp
    · exact consHead_ne _ _
theorem byte_some {l : List UInt8} {c : UInt8} (h : 0 < l.count c) : ∃ i : Nat, Lib.indexByte l c = i := by
  have h1 := Lib.indexByte_ge l c
  by_cases e : Lib.indexByte l c = -1
  · have hm : c ∈ l := List.count_pos_iff.1 h
    obtain ⟨k, hk, e2⟩ := List.mem_iff_getElem.1 hm
    exact absurd (by rw [List.getElem?_eq_getElem hk, e2]) (Lib.indexByte_none e k)
  · exact Int.eq_ofNat_of_zero_le (by omega)
theorem splitK_one (c : UInt8) (save : Nat) (hs : save ≤ 1) : ∀ s : List UInt8, Lib.splitK [c] save (s.count c) s = pieces (if save = 0 then [] else [c]) c s
  | [] => by simp [Lib.splitK, pieces]
  | b :: l => by
    have ih := splitK_one c save hs l
    by_cases e : b = c
    · subst e
      have h0 : Lib.index (b :: l) [b] = 0 := by rw [Lib.index_one]; simp [Lib.indexByte]
      rw [List.count_cons_self, Lib.splitK, h0, pieces, if_pos rfl]
      simp only [show ((0 : Int) == -1) = false from rfl, Bool.false_eq_true, if_false, Int.toNat_zero, Nat.zero_add, List.length_singleton, List.drop_succ_cons, List.drop_zero]
      rw [ih]
      congr 1
      rcases Nat.le_one_iff_eq_zero_or_eq_one.1 hs with rfl | rfl <;> simp
    · rw [List.count_cons_of_ne e, pieces, if_neg e, ← ih]
      cases hk : l.count c with
      | zero => simp [Lib.splitK, consHead]
      | succ m =>
        obtain ⟨i, hi⟩ := byte_some (l := l) (c := c) (by omega)
        have h1 : Lib.index l [c] = i := by rw [Lib.index_one, hi]
        have h2 : Lib.index (b :: l) [c] = ((i + 1 : Nat) : Int) := by
          rw [Lib.index_one, Lib.indexByte, hi]
          have e1 : (b == c) = false := by simpa using e
          have e2 : ((i : Int) == -1) = false := by simp
          rw [e1, e2]
          simp
        have e3 : ((i : Int) == -1) = false := by simp
        have e4 : (((i + 1 : Nat) : Int) == -1) = false := by rw [beq_eq_false_iff_ne]; omega
        rw [Lib.splitK, Lib.splitK, h1, h2, e3, e4]
        simp only [Bool.false_eq_true, if_false, Int.toNat_natCast, List.length_singleton, consHead]
        have e5 : i + 1 + save = (i + save) + 1 := by omega
        rw [e5, List.take_succ_cons, List.drop_succ_cons]
/-- What is before the first c, what is behind it, and whether there is one. -/
def cutB (c : UInt8) : List UInt8 → List UInt8 × List UInt8 × Bool
  | [] => ([], [], false)
  | b :: l => if b = c then ([], l, true) else (b :: (cutB c l).1, (cutB c l).2.1, (cutB c l).2.2)
theorem cut_one (c : UInt8) : ∀ s : List UInt8, Lib.cut s [c] = cutB c s
  | [] => by simp [Lib.cut, Lib.index, cutB]
  | b :: l => by
    have ih := cut_one c l
    have hge := Lib.indexByte_ge l c
    rw [cutB, ← ih]
    unfold Lib.cut
    rw [Lib.index_one, Lib.index_one, Lib.indexByte]
    by_cases e : b = c
    · subst e
      simp
    · have e1 : (b == c) = false := by simpa using e
      rw [e1, if_neg e]
      by_cases e2 : Lib.indexByte l c = -1
      · rw [e2]
        simp
      · have e3 : (Lib.indexByte l c == -1) = false := by simpa using e2
        obtain ⟨i, hi⟩ := Int.eq_ofNat_of_zero_le (show 0 ≤ Lib.indexByte l c by omega)
        rw [e3, hi]
        have h4 : (0 : Int) ≤ (i : Int) + 1 := by omega
        have h5 : ((i : Int) + 1).toNat = i + 1 := by omega
        simp only [Bool.false_eq_true, if_false, h4, if_true, h5, Int.natCast_nonneg, Int.toNat_natCast, List.take_succ_cons, List.length_singleton]
        rfl
def isDig (b : UInt8) : Bool := decide (48 ≤ b.toNat) && decide (b.toNat ≤ 57)
def decFrom (a : Nat) (ds : List UInt8) : Nat := ds.foldl (fun a b => a * 10 + (b.toNat - 48)) a
def decVal (ds : List UInt8) : Nat := decFrom 0 ds
def canon (ds : List UInt8) : Bool := !decide (ds = []) && (decide (ds = [48]) || !decide (ds.head? = some 48))
def padOfL (L : List UInt8) : Bool := decide (L.head? = some 42)
def restOfL (L : List UInt8) : List UInt8 := if padOfL L then L.tail else L
/-- A line by its form: is it a pad's, its number's digits, its path. -/
def lineP (L : List UInt8) : Option (Bool × List UInt8 × List UInt8) :=
  if (cutB 32 (restOfL L)).2.2 && (cutB 32 (restOfL L)).1.all isDig && canon (cutB 32 (restOfL L)).1 then some (padOfL L, (cutB 32 (restOfL L)).1, (cutB 32 (restOfL L)).2.1) else none
def lenP (ds : List UInt8) : Int := if decVal ds ≤ 9223372036854775807 then decVal ds else 65537
def lenR (ds : List UInt8) : Int := if decVal ds ≤ 65536 then decVal ds else 65537
def mkB (l : List UInt8) : ByteArray := ⟨l.toArray⟩
def pathP (r : List UInt8) : List ByteArray := (pieces [] 47 r).map mkB
def fileP (x : Bool × List UInt8 × List UInt8) : FileV := ⟨pathP x.2.2, lenP x.2.1, x.1⟩
def fileR (x : Bool × List UInt8 × List UInt8) : FileV := ⟨pathP x.2.2, lenR x.2.1, x.1⟩
def filesP (Ls : List (List UInt8)) : List FileV := Ls.filterMap fun L => (lineP L).map fileP
def filesR (Ls : List (List UInt8)) : List FileV := Ls.filterMap fun L => (lineP L).map fileR
/-- The lines that are ended, and what is behind the last line's end. -/
def linesOf (s : List UInt8) : List (List UInt8) := (pieces [] 10 s).dropLast
def tailOf (s : List UInt8) : List UInt8 := ((pieces [] 10 s).getLast?).getD []
def badAt : List (List UInt8) → Nat → Option Nat
  | [], _ => none
  | L :: r, i => if (lineP L).isSome then badAt r (i + 1) else some i
/-- What Parse answers: the list, the line, the error. -/
def parseL (s : List UInt8) : List FileV :=
  match badAt (linesOf s) 0 with | some _ => [] | none => if tailOf s = [] then (if validOf (filesP (linesOf s)) then filesP (linesOf s) else []) else []
def parseLine (s : List UInt8) : Int :=
  match badAt (linesOf s) 0 with | some i => i | none => if tailOf s = [] then (if validOf (filesP (linesOf s)) then 0 else (linesOf s).length) else (linesOf s).length
def parseErr (s : List UInt8) : Int :=
  match badAt (linesOf s) 0 with | some _ => 2 | none => if tailOf s = [] then (if validOf (filesP (linesOf s)) then 0 else 2) else 2
/-- What Format writes. -/
def fmtLine (f : FileV) : List UInt8 := (if f.pad then [42] else []) ++ Lib.itoa f.len ++ [32] ++ (joinB f.path).data.toList ++ [10]
def fmtOf (l : List FileV) : List UInt8 := if validOf l then l.flatMap fmtLine else []

/-! ### lines -/
theorem pieces_app {c : UInt8} (b : List UInt8) : ∀ (a : List UInt8), c ∉ a → pieces [] c (a ++ c :: b) = a :: pieces [] c b := by
  intro a
  induction a with
  | nil => intro _; simp [pieces]
  | cons x a ih =>
    intro h
    have hx : x ≠ c := fun e => h (by rw [e]; exact .head _)
    rw [List.cons_append, pieces, if_neg hx, ih (fun q => h (.tail _ q)), consHead]
theorem pieces_free {c : UInt8} : ∀ (a : List UInt8), c ∉ a → pieces [] c a = [a] := by
  intro a
  induction a with
  | nil => intro _; rfl
  | cons x a ih =>
    intro h
    have hx : x ≠ c := fun e => h (by rw [e]; exact .head _)
    rw [pieces, if_neg hx, ih (fun q => h (.tail _ q)), consHead]
theorem byte_form (c : UInt8) (s : List UInt8) : c ∉ s ∨ ∃ a b, s = a ++ c :: b ∧ c ∉ a := by
  induction s with
  | nil => exact .inl (by simp)
  | cons x r ih =>
    by_cases e : x = c
    · exact .inr ⟨[], r, by rw [e]; rfl, by simp⟩
    · rcases ih with h | ⟨a, b, rfl, h⟩
      · refine .inl (fun q => ?_)
        rcases List.mem_cons.1 q with q | q
        · exact e q.symm
        · exact h q
      · refine .inr ⟨x :: a, b, rfl, fun q => ?_⟩
        rcases List.mem_cons.1 q with q | q
        · exact e q.symm
        · exact h q
theorem lines_app {a b : List UInt8} (h : (10 : UInt8) ∉ a) : linesOf (a ++ 10 :: b) = a :: linesOf b ∧ tailOf (a ++ 10 :: b) = tailOf b := by
  unfold linesOf tailOf
  rw [pieces_app _ _ h]
  have hne := pieces_ne [] 10 b
  constructor
  · rw [List.dropLast_cons_of_ne_nil hne]
  · cases hp : pieces [] 10 b with
    | nil => exact absurd hp hne
    | cons x r => simp
theorem lines_free {a : List UInt8} (h : (10 : UInt8) ∉ a) : linesOf a = [] ∧ tailOf a = a := by
  unfold linesOf tailOf
  rw [pieces_free _ h]
  simp
theorem lines_text : ∀ (n : Nat) (s : List UInt8), s.length ≤ n → s = (linesOf s).flatMap (fun L => L ++ [10]) ++ tailOf s ∧ (∀ L ∈ linesOf s, (10 : UInt8) ∉ L) ∧ (10 : UInt8) ∉ tailOf s
  | 0, s, h => by
    obtain rfl : s = [] := List.eq_nil_of_length_eq_zero (by omega)
    simp [linesOf, tailOf, pieces]
  | n + 1, s, h => by
    rcases byte_form 10 s with hf | ⟨a, b, rfl, ha⟩
    · obtain ⟨h1, h2⟩ := lines_free hf
      rw [h1, h2]
      simp [hf]
    · obtain ⟨h1, h2⟩ := lines_app (b := b) ha
      obtain ⟨i1, i2, i3⟩ := lines_text n b (by simp at h; omega)
      rw [h1, h2]
      refine ⟨?_, ?_, i3⟩
      · rw [List.flatMap_cons, List.append_assoc, ← i1]
        simp
      · intro L hL
        rcases List.mem_cons.1 hL with rfl | hL
        · exact ha
        · exact i2 L hL
theorem lines_of (Ls : List (List UInt8)) (h : ∀ L ∈ Ls, (10 : UInt8) ∉ L) : linesOf (Ls.flatMap fun L => L ++ [10]) = Ls ∧ tailOf (Ls.flatMap fun L => L ++ [10]) = [] := by
  induction Ls with
  | nil => simp [linesOf, tailOf, pieces]
  | cons L r ih =>
    obtain ⟨i1, i2⟩ := ih (fun x hx => h x (by simp [hx]))
    have e : ((L :: r).flatMap fun L => L ++ [10]) = L ++ 10 :: (r.flatMap fun L => L ++ [10]) := by simp
    obtain ⟨h1, h2⟩ := lines_app (a := L) (b := r.flatMap fun L => L ++ [10]) (h L (by simp))
    rw [e, h1, h2, i1, i2]
    exact ⟨rfl, rfl⟩
end Go.Proofs.YtnhgichiedninaaGreatDoor

namespace Go.Proofs.YtnhgichiedninaaGreatDoor
set_option linter.unusedSimpArgs false
set_option linter.unusedVariables false
open Go.RowKit

theorem parts_upto {p : List ByteArray} {k : Nat} (hk : ¬ k < p.length) (h : ∀ (j : Nat) (hj : j < p.length), j < k → partOk p[j] = true) : p.all partOk = true := by
  rw [List.all_eq_true]
  intro x hx
  obtain ⟨j, hj, rfl⟩ := List.mem_iff_getElem.1 hx
  exact h j hj (by omega)
theorem parts_not {p : List ByteArray} {k : Nat} (hk : k < p.length) (h : partOk p[k] = false) : p.all partOk = false := by
  rw [List.all_eq_false]
  exact ⟨_, List.getElem_mem hk, by simp [h]⟩

set_option maxRecDepth 100000 in
set_option maxHeartbeats 2000000 in
theorem named_pad (pa : Option Addr) (pc : Nat) (f : FileV) (w : World) (h : StrsAt w pa pc f.path) (hl : -9223372036854775808 ≤ f.len ∧ f.len ≤ 9223372036854775807) (hp : f.pad = true) :
    Calls Tryz.prog 134 #[fileV pa pc f] w fun e w' => e = .returned (.bool (decide (f.path = padPath f.len))) ∧ New w w' := by
  have hr := h.room; have hr2 := h.cap
  unfold maxLen at hr2
  obtain ⟨path, len, pad⟩ := f
  dsimp only at *
  subst hp
  by_cases h2 : path.length = 2
  · obtain ⟨x, y, rfl⟩ : ∃ x y, path = [x, y] := by
      match path, h2 with
      | [x, y], _ => exact ⟨x, y, rfl⟩
    obtain ⟨pb, po, rfl, hpb, hpc⟩ := h.get (by simp)
    have c0 : w.cell? ⟨pb, po, none⟩ = some (.string x) := hpc 0 (by simp)
    have c1 : w.cell? ⟨pb, po + 1, none⟩ = some (.string y) := hpc 1 (by simp)
    have HL := hid hl
    have HD := hid (fun w => decimal_any len hl.1 hl.2 w)
    clear h hpc hl h2
    cases e0 : x.toList == [46, 112, 97, 100] with
    | false =>
      have HE := hid (show decide ([x, y] = padPath len) = false by
        rw [lit_eq] at e0
        simp only [decide_eq_false_iff_not] at e0 ⊢
        intro h
        simp [padPath] at h
        exact e0 h.1)
      go_enter Tryz.func134, Tryz.ntmps134
      go_wp2
      go_quiet (fail)
      go_wp2
      go_ret
      exact ⟨ret_bool HE.out.symm, (((Mod.refl _ _).alloc _).drewN _)⟩
    | true =>
      have HE := hid (show decide ([x, y] = padPath len) = decide (y = itoaB len) by
        rw [lit_eq] at e0
        simp only [decide_eq_true_eq] at e0
        subst e0
        rw [Bool.eq_iff_iff]
        simp [padPath, dotpad])
      have HW := hid (two_eq y (itoaB len))
      go_enter Tryz.func134, Tryz.ntmps134
      go_wp2
      go_region_held3 (fun w' => w'.cell? ⟨w.heap.size, 0, none⟩ = some (.slice (some ⟨pb, po, none⟩) 2 pc) ∧ w'.cell? ⟨w.heap.size, 1, none⟩ = some (.int .i64 len) ∧ w'.cell? ⟨pb, po, none⟩ = some (.string x) ∧ w'.cell? ⟨pb, po + 1, none⟩ = some (.string y)) ((first | exact ⟨r0, r1, r2, r3⟩ | go_keep)) (first | (go_at_call 155; refine (HD.out _).mono ?_; rintro e w1 ⟨rfl, n1⟩; have N1 := hid (Mod.trans ((((Mod.refl (fun _ => False) w).alloc _)).drew) n1); have B1 := n1.blk (Blk.drew (Blk.new w #[.slice (some ⟨pb, po, none⟩) 2 pc, .int .i64 len, .bool true] 60)); have r0 : w1.cell? ⟨w.heap.size, 0, none⟩ = some (.slice (some ⟨pb, po, none⟩) 2 pc) := B1.cellv 0 rfl; have r1 : w1.cell? ⟨w.heap.size, 1, none⟩ = some (.int .i64 len) := B1.cellv 1 rfl; have r2 := New.cellv N1.out c0; have r3 := New.cellv N1.out c1; clear n1 B1))
      all_goals go_wp2
      all_goals go_ret
      all_goals exact ⟨ret_bool (HW.out.trans HE.out.symm), N1.out⟩
  · have HE := hid (show decide (path = padPath len) = false by
      simp only [decide_eq_false_iff_not]
      intro h
      rw [h] at h2
      exact h2 rfl)
    have hb : ((path.length : Int) == 2) = false := beq_eq_false_iff_ne.2 (by omega)
    clear h hl
    go_enter Tryz.func134, Tryz.ntmps134
    go_wp2
    go_quiet (fail)
    go_wp2
    go_ret
    exact ⟨ret_bool HE.out.symm, (((Mod.refl _ _).alloc _).drewN _)⟩

set_option maxRecDepth 100000 in
set_option maxHeartbeats 2000000 in
theorem named_file (pa : Option Addr) (pc : Nat) (f : FileV) (w : World) (h : StrsAt w pa pc f.path) (hp : f.pad = false) :
    Calls Tryz.prog 134 #[fileV pa pc f] w fun e w' => e = .returned (.bool (f.path.all partOk && decide (1 ≤ f.path.length) && decide (f.path.length ≤ 8) && !decide (f.path.head? = some dotpad))) ∧ New w w' := by
  have hr := h.room; have hr2 := h.cap
  unfold maxLen at hr2
  obtain ⟨path, len, pad⟩ := f
  dsimp only at *
  subst hp
  by_cases hz : 0 < path.length
  · obtain ⟨pb, po, rfl, hpb, hpc⟩ := h.get hz
    have HS := hid h.small
    have HPC := hid hpc
    clear h hpc
    go_enter Tryz.func134, Tryz.ntmps134
    go_wp2
    go_loopw [31] (fun i wr => ∃ k : Nat, i = .int .i64 k ∧ k ≤ path.length ∧ (∀ (j : Nat) (hj : j < path.length), j < k → partOk path[j] = true) ∧ wr = w.alloc (.cells #[.slice (some ⟨pb, po, none⟩) path.length pc, .int .i64 len, .bool false] 60)) (fun i _ => path.length - (intOf i).toNat)
    case atStart => exact ⟨0, rfl, by omega, by intros; omega, rfl⟩
    case round =>
      obtain ⟨k, rfl, hk, hb, rfl⟩ := hrel
      have HB := hid hb
      clear hb
      by_cases hlt : k < path.length
      · have g1 := HPC.out k hlt
        have hsz : (path[k]).size ≤ maxLen := HS.out _ (List.getElem_mem hlt)
        obtain ⟨s, hs⟩ : ∃ s, s = path[k] := ⟨_, rfl⟩
        rw [← hs] at g1 hsz
        have HP := hid (fun w => rPart_any s w hsz)
        have HSK := hid hs
        clear hsz hs
        cases he : partOk s with
        | true =>
          rw [he] at HP
          have HE := hid he
          clear he
          go_wp2_with (go_at_call 156; refine (HP.out _).mono ?_; rintro e w1 ⟨rfl, rfl⟩)
          exact ⟨⟨k + 1, by simp, by omega, fun j hj h => by rcases Nat.lt_succ_iff_lt_or_eq.1 h with h | h; exact HB.out j hj h; subst h; rw [← HSK.out]; exact HE.out, trivial⟩, by simp [intOf]; omega⟩
        | false =>
          rw [he] at HP
          have HE := hid (parts_not hlt (by rw [← HSK.out]; exact he))
          clear he
          go_wp2_with (go_at_call 156; refine (HP.out _).mono ?_; rintro e w1 ⟨rfl, rfl⟩)
          go_ret
          exact ⟨ret_bool (by rw [HE.out]; rfl), (Mod.refl _ _).alloc _⟩
      · have HE := hid (parts_upto hlt (fun j hj h => HB.out j hj h))
        have h1 : (1 : Int) ≤ path.length := by omega
        have c0 : w.cell? ⟨pb, po, none⟩ = some (.string path[0]) := by simpa using HPC.out 0 hz
        have HH := hid (show decide (path.head? = some dotpad) = (path[0].toList == [46, 112, 97, 100]) by
          rw [lit_eq, List.head?_eq_getElem?, List.getElem?_eq_getElem hz, Bool.eq_iff_iff]
          simp [dotpad])
        obtain ⟨x, hx⟩ : ∃ x, x = path[0] := ⟨_, rfl⟩
        rw [← hx] at c0 HH
        clear hx
        by_cases h8 : path.length ≤ 8
        · have h8' : (path.length : Int) ≤ 8 := by omega
          have HV := hid (show (path.all partOk && decide (1 ≤ path.length) && decide (path.length ≤ 8) && !decide (path.head? = some dotpad)) = !(x.toList == [46, 112, 97, 100]) by
            rw [HE.out, HH.out, decide_eq_true (show 1 ≤ path.length by omega), decide_eq_true h8]; rfl)
          go_wp2
          all_goals go_ret
          all_goals exact ⟨ret_bool (by first | exact HV.out.symm | (simp; done) | (rw [← HV.out]; simp)), (Mod.refl _ _).alloc _⟩
        · have h8' : ¬ (path.length : Int) ≤ 8 := by omega
          have HV := hid (show (path.all partOk && decide (1 ≤ path.length) && decide (path.length ≤ 8) && !decide (path.head? = some dotpad)) = false by
            rw [decide_eq_false h8]; simp)
          go_wp2
          all_goals go_ret
          all_goals exact ⟨ret_bool (by first | exact HV.out.symm | (simp; done) | (rw [← HV.out]; simp)), (Mod.refl _ _).alloc _⟩
  · obtain rfl : path = [] := List.eq_nil_of_length_eq_zero (by omega)
    clear h
    go_enter Tryz.func134, Tryz.ntmps134
    go_wp2
    refine wp_loop_rounds 1 ?_
    rw [rounds_succ]
    go_wp2
    go_ret
    exact ⟨rfl, (Mod.refl _ _).alloc _⟩
theorem named_any (pa : Option Addr) (pc : Nat) (f : FileV) (w : World) (h : StrsAt w pa pc f.path) (hl : -9223372036854775808 ≤ f.len ∧ f.len ≤ 9223372036854775807) :
    Calls Tryz.prog 134 #[fileV pa pc f] w fun e w' => e = .returned (.bool (namedR f)) ∧ New w w' := by
  cases hp : f.pad with
  | true =>
    have e : namedR f = decide (f.path = padPath f.len) := by simp [namedR, hp]
    rw [e]
    exact named_pad pa pc f w h hl hp
  | false =>
    have e : namedR f = (f.path.all partOk && decide (1 ≤ f.path.length) && decide (f.path.length ≤ 8) && !decide (f.path.head? = some dotpad)) := by simp [namedR, hp]
    rw [e]
    exact named_file pa pc f w h hp
end Go.Proofs.YtnhgichiedninaaGreatDoor
