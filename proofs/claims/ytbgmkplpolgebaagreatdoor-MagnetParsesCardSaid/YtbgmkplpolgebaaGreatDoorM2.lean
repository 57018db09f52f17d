/-
  Several texts in one, in their build order. Texts of magnets told in plain words: escaped bytes, and escapes read in either case of digits. Plain Lean, no program. No condition. Whether a text is in a list of texts. Plain Lean. No condition. What a valid list of files is, told twice: as package files asks it (with sets of joined paths), and as the reference does (file beside file). The two are one. Plain Lean, no program. No condition.
-/
import Derived.Test.YtbgmkplpolgebaaGreatDoorM1
import Derived.Test.YtbgmkplpolgebaaGreatDoorRows
import Derived.Laws.Strings
import Derived.WideShapes
import Derived.Lib.Join
import Derived.Lib.ItoaLen
namespace Go.Proofs.YtbgmkplpolgebaaGreatDoor
set_option linter.unusedSimpArgs false
set_option linter.unusedVariables false

/-- The bytes that stand as they are. -/
def plainE (b : UInt8) : Bool := (decide (97 ≤ b.toNat) && decide (b.toNat ≤ 122)) || (decide (65 ≤ b.toNat) && decide (b.toNat ≤ 90)) || (decide (48 ≤ b.toNat) && decide (b.toNat ≤ 57)) || decide (b = 45) || decide (b = 46) || decide (b = 95) || decide (b = 126)
def upDs : List UInt8 := [48, 49, 50, 51, 52, 53, 54, 55, 56, 57, 65, 66, 67, 68, 69, 70]
def upD (n : Nat) : UInt8 := upDs.getD n 0
def eB (b : UInt8) : List UInt8 := if plainE b then [b] else [37, upD (b.toNat / 16), upD (b.toNat % 16)]
/-- A great letter of the digits, made small. -/
def lowC (c : UInt8) : UInt8 := if 65 ≤ c.toNat ∧ c.toNat ≤ 70 then c + 32 else c
def nibC (c : UInt8) : Option Nat := nib (lowC c)
/-- Escapes read in either case; all other bytes stand as they are. -/
def loose : List UInt8 → Option (List UInt8)
  | [] => some []
  | [c] => if c = 37 then none else some [c]
  | [c, a] => if c = 37 then none else (loose [a]).map (c :: ·)
  | c :: a :: b :: t => if c = 37 then (match nibC a, nibC b with | some x, some y => (loose t).map (UInt8.ofNat (16 * x + y) :: ·) | _, _ => none) else (loose (a :: b :: t)).map (c :: ·)
theorem loose_nil : loose [] = some [] := by rw [loose]
theorem loose_plain {c : UInt8} (h : c ≠ 37) : ∀ (r : List UInt8), loose (c :: r) = (loose r).map (c :: ·)
  | [] => by simp [loose, h]
  | [a] => by simp [loose, h]
  | a :: b :: t => by simp [loose, h]
theorem loose_esc (a b : UInt8) (t : List UInt8) : loose (37 :: a :: b :: t) = (match nibC a, nibC b with | some x, some y => (loose t).map (UInt8.ofNat (16 * x + y) :: ·) | _, _ => none) := by
  simp [loose]
theorem loose_cut : ∀ (r : List UInt8), r.length < 2 → loose (37 :: r) = none
  | [], _ => by simp [loose]
  | [a], _ => by simp [loose]
  | a :: b :: t, h => by simp at h; omega
theorem nibC_lt {c : UInt8} {n : Nat} (h : nibC c = some n) : n < 16 := nib_lt h
theorem loose_len : ∀ (n : Nat) (l : List UInt8), l.length ≤ n → ∀ t, loose l = some t → t.length ≤ l.length
  | _, [], _, t, h => by rw [loose_nil] at h; cases h; simp
  | 0, _ :: _, hl, _, _ => by simp at hl
  | n + 1, c :: r, hl, t, h => by
    simp only [List.length_cons] at hl ⊢
    by_cases hc : c = 37
    · subst hc
      match r, h, hl with
      | [], h, hl => rw [loose_cut _ (by simp)] at h; cases h
      | [a], h, hl => rw [loose_cut _ (by simp)] at h; cases h
      | a :: b :: u, h, hl =>
        rw [loose_esc] at h
        cases ha : nibC a with
        | none => rw [ha] at h; cases h
        | some x =>
          cases hb : nibC b with
          | none => rw [ha, hb] at h; cases h
          | some y =>
            rw [ha, hb] at h
            cases hu : loose u with
            | none => rw [hu] at h; cases h
            | some v =>
              rw [hu] at h
              cases h
              have := loose_len n u (by simp only [List.length_cons] at hl; omega) v hu
              simp only [List.length_cons] at *
              omega
    · rw [loose_plain hc] at h
      cases hu : loose r with
      | none => rw [hu] at h; cases h
      | some v =>
        rw [hu] at h
        cases h
        have := loose_len n r (by omega) v hu
        simp only [List.length_cons]
        omega
/-- Hexadecimal digits in either case. -/
def hexC (s : List UInt8) : Option (List UInt8) := unhex (s.map lowC)
theorem hexC_two (a b : UInt8) : hexC [a, b] = (match nibC a, nibC b with | some x, some y => some [UInt8.ofNat (16 * x + y)] | _, _ => none) := by
  unfold hexC nibC
  show unhex [lowC a, lowC b] = _
  rw [unhex]
  cases nib (lowC a) <;> cases nib (lowC b) <;> rfl
theorem loose_hex (a b : UInt8) (t : List UInt8) : loose (37 :: a :: b :: t) = (match hexC [a, b] with | some x => (loose t).map (x ++ ·) | none => none) := by
  rw [loose_esc, hexC_two]
  cases nibC a <;> cases nibC b <;> rfl
/-- A text read from the left: what has been read, and what is left to be read. -/
theorem loose_step {acc l : List UInt8} {X : Option (List UInt8)} {c : UInt8} (h : (loose (c :: l)).map (acc ++ ·) = X) (hc : c ≠ 37) : (loose l).map ((acc ++ [c]) ++ ·) = X := by
  rw [← h, loose_plain hc]
  cases loose l with
  | none => rfl
  | some u => simp
theorem loose_step3 {acc t : List UInt8} {X : Option (List UInt8)} {a b : UInt8} {x : List UInt8} (h : (loose (37 :: a :: b :: t)).map (acc ++ ·) = X) (hx : hexC [a, b] = some x) : (loose t).map ((acc ++ x) ++ ·) = X := by
  rw [← h, loose_hex, hx]
  cases loose t with
  | none => rfl
  | some u => simp
theorem loose_bad {acc t : List UInt8} {X : Option (List UInt8)} {a b : UInt8} (h : (loose (37 :: a :: b :: t)).map (acc ++ ·) = X) (hx : hexC [a, b] = none) : X = none := by
  rw [← h, loose_hex, hx]
  rfl
theorem loose_short {acc r : List UInt8} {X : Option (List UInt8)} (h : (loose (37 :: r)).map (acc ++ ·) = X) (hr : r.length < 2) : X = none := by
  rw [← h, loose_cut _ hr]
  rfl
/-- Digits in either case, read two at a time. -/
theorem unhex_low : ∀ (s : List UInt8), unhex (s.map lowC) = (match s with | [] => some [] | [_] => none | a :: b :: r => match nibC a, nibC b, unhex (r.map lowC) with | some x, some y, some t => some (UInt8.ofNat (16 * x + y) :: t) | _, _, _ => none)
  | [] => rfl
  | [_] => rfl
  | a :: b :: r => rfl
end Go.Proofs.YtbgmkplpolgebaaGreatDoor

namespace Go.Proofs.YtbgmkplpolgebaaGreatDoor
theorem bytes_ext {a b : ByteArray} (h : a.data.toList = b.data.toList) : a = b := by
  obtain ⟨⟨a⟩⟩ := a
  obtain ⟨⟨b⟩⟩ := b
  simp at h
  rw [h]
/-- As the walk compares a text with a written one. -/
theorem lit_eq (s : ByteArray) (l : List UInt8) : (s.toList == l) = decide (s = ⟨l.toArray⟩) := by
  rw [ByteArray.toList_eq, Bool.eq_iff_iff]
  simp only [beq_iff_eq, decide_eq_true_eq]
  constructor
  · intro h
    exact bytes_ext (by rw [h])
  · rintro rfl
    rfl
theorem two_eq (s t : ByteArray) : (s.toList == t.toList) = decide (s = t) := by
  rw [lit_eq, ByteArray.toList_eq]
end Go.Proofs.YtbgmkplpolgebaaGreatDoor

namespace Go.Proofs.YtbgmkplpolgebaaGreatDoor
set_option linter.unusedSimpArgs false
set_option linter.unusedVariables false

/-- A file as the program has it: path, length, pad. -/
structure FileV where
  path : List ByteArray
  len : Int
  pad : Bool

def dot : ByteArray := ⟨#[46]⟩
def dots : ByteArray := ⟨#[46, 46]⟩
def badByte (c : UInt8) : Bool := decide (c.toNat < 32) || decide (c.toNat = 127) || decide (c.toNat = 47) || decide (c.toNat = 92)
def partOk (s : ByteArray) : Bool := s.data.toList.all (fun c => !badByte c) && decide (1 ≤ s.size) && decide (s.size ≤ 40) && !decide (s = dot) && !decide (s = dots)
def itoaB (n : Int) : ByteArray := ⟨(Lib.itoa n).toArray⟩
def named (f : FileV) : Bool := decide (1 ≤ f.path.length) && decide (f.path.length ≤ 8) && f.path.all partOk
/-! ### the joined path tells the path -/
/-! ### numbers are parts -/
theorem dec_bytes (u : Nat) : (∀ c ∈ Lib.decDigits u, 48 ≤ c.toNat ∧ c.toNat ≤ 57) ∧ Lib.decDigits u ≠ [] := by
  induction u using Nat.strongRecOn with
  | ind u ih =>
    rw [Lib.decDigits]
    split
    · next h =>
      refine ⟨fun c hc => ?_, by simp⟩
      simp at hc
      subst hc
      simp [UInt8.toNat_ofNat']
      omega
    · next h =>
      refine ⟨fun c hc => ?_, by simp⟩
      simp at hc
      rcases hc with hc | hc
      · exact (ih (u / 10) (by omega)).1 c hc
      · subst hc
        simp [UInt8.toNat_ofNat']
        omega
/-! ### the two are one -/
end Go.Proofs.YtbgmkplpolgebaaGreatDoor
