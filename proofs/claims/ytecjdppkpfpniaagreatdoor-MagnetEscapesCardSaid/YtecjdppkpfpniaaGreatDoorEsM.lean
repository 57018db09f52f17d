/-
  Texts of magnets told in plain words: escaped bytes, and escapes read in either case of digits. Plain Lean, no program. No condition.
-/
import Derived.Test.YtecjdppkpfpniaaGreatDoorFxM
namespace Go.Proofs.YtecjdppkpfpniaaGreatDoor
set_option linter.unusedSimpArgs false
set_option linter.unusedVariables false

/-- The bytes that stand as they are. -/
def plainE (b : UInt8) : Bool := (decide (97 ≤ b.toNat) && decide (b.toNat ≤ 122)) || (decide (65 ≤ b.toNat) && decide (b.toNat ≤ 90)) || (decide (48 ≤ b.toNat) && decide (b.toNat ≤ 57)) || decide (b = 45) || decide (b = 46) || decide (b = 95) || decide (b = 126)
def upDs : List UInt8 := [48, 49, 50, 51, 52, 53, 54, 55, 56, 57, 65, 66, 67, 68, 69, 70]
def upD (n : Nat) : UInt8 := upDs.getD n 0
def eB (b : UInt8) : List UInt8 := if plainE b then [b] else [37, upD (b.toNat / 16), upD (b.toNat % 16)]
/-- A text, escaped. -/
def eOf (l : List UInt8) : List UInt8 := l.flatMap eB
theorem eB_len (b : UInt8) : (eB b).length ≤ 3 ∧ 1 ≤ (eB b).length := by
  unfold eB
  split <;> simp
theorem eOf_len : ∀ l : List UInt8, (eOf l).length ≤ 3 * l.length
  | [] => by simp [eOf]
  | b :: l => by
    have h1 := eOf_len l
    have h2 := eB_len b
    unfold eOf at *
    rw [List.flatMap_cons, List.length_append, List.length_cons]
    omega
theorem eOf_next {l : List UInt8} {k : Nat} (h : k < l.length) : eOf (l.take (k + 1)) = eOf (l.take k) ++ eB l[k] := by
  unfold eOf
  rw [List.take_add_one, List.getElem?_eq_getElem h, List.flatMap_append]
  simp
/-- A great letter of the digits, made small. -/
def lowC (c : UInt8) : UInt8 := if 65 ≤ c.toNat ∧ c.toNat ≤ 70 then c + 32 else c
def nibC (c : UInt8) : Option Nat := nib (lowC c)
/-- Escapes read in either case; all other bytes stand as they are. -/
def loose : List UInt8 → Option (List UInt8)
  | [] => some []
  | [c] => if c = 37 then none else some [c]
  | [c, a] => if c = 37 then none else (loose [a]).map (c :: ·)
  | c :: a :: b :: t => if c = 37 then (match nibC a, nibC b with | some x, some y => (loose t).map (UInt8.ofNat (16 * x + y) :: ·) | _, _ => none) else (loose (a :: b :: t)).map (c :: ·)
theorem loose_nil : loose [] = some [] := by rw [loose]
theorem loose_plain {c : UInt8} (h : c ≠ 37) : ∀ (r : List UInt8), loose (c :: r) = (loose r).map (c :: ·)
  | [] => by simp [loose, h]
  | [a] => by simp [loose, h]
  | a :: b :: t => by simp [loose, h]
theorem loose_esc (a b : UInt8) (t : List UInt8) : loose (37 :: a :: b :: t) = (match nibC a, nibC b with | some x, some y => (loose t).map (UInt8.ofNat (16 * x + y) :: ·) | _, _ => none) := by
  simp [loose]
theorem loose_cut : ∀ (r : List UInt8), r.length < 2 → loose (37 :: r) = none
  | [], _ => by simp [loose]
  | [a], _ => by simp [loose]
  | a :: b :: t, h => by simp at h; omega
theorem upD_nib : ∀ n, n < 16 → nibC (upD n) = some n := by decide +kernel
theorem nibC_lt {c : UInt8} {n : Nat} (h : nibC c = some n) : n < 16 := nib_lt h
theorem plain_not {b : UInt8} (h : plainE b = true) : b ≠ 37 := by
  intro e
  subst e
  revert h
  decide
theorem loose_len : ∀ (n : Nat) (l : List UInt8), l.length ≤ n → ∀ t, loose l = some t → t.length ≤ l.length
  | _, [], _, t, h => by rw [loose_nil] at h; cases h; simp
  | 0, _ :: _, hl, _, _ => by simp at hl
  | n + 1, c :: r, hl, t, h => by
    simp only [List.length_cons] at hl ⊢
    by_cases hc : c = 37
    · subst hc
      match r, h, hl with
      | [], h, hl => rw [loose_cut _ (by simp)] at h; cases h
      | [a], h, hl => rw [loose_cut _ (by simp)] at h; cases h
      | a :: b :: u, h, hl =>
        rw [loose_esc] at h
        cases ha : nibC a with
        | none => rw [ha] at h; cases h
        | some x =>
          cases hb : nibC b with
          | none => rw [ha, hb] at h; cases h
          | some y =>
            rw [ha, hb] at h
            cases hu : loose u with
            | none => rw [hu] at h; cases h
            | some v =>
              rw [hu] at h
              cases h
              have := loose_len n u (by simp only [List.length_cons] at hl; omega) v hu
              simp only [List.length_cons] at *
              omega
    · rw [loose_plain hc] at h
      cases hu : loose r with
      | none => rw [hu] at h; cases h
      | some v =>
        rw [hu] at h
        cases h
        have := loose_len n r (by omega) v hu
        simp only [List.length_cons]
        omega
theorem loose_eOf : ∀ l : List UInt8, loose (eOf l) = some l
  | [] => loose_nil
  | b :: l => by
    have ih := loose_eOf l
    have e : eOf (b :: l) = eB b ++ eOf l := rfl
    rw [e]
    unfold eB
    split
    · next h =>
      rw [List.singleton_append, loose_plain (plain_not h), ih]
      rfl
    · have hb := b.toNat_lt
      show loose (37 :: upD (b.toNat / 16) :: upD (b.toNat % 16) :: eOf l) = _
      rw [loose_esc, upD_nib _ (by omega), upD_nib _ (by omega), ih]
      simp only [Option.map_some]
      rw [show 16 * (b.toNat / 16) + b.toNat % 16 = b.toNat by omega, UInt8.ofNat_toNat]
/-- Unescape's answer. -/
def unE (s : List UInt8) : Int := if 65536 < s.length then 3 else match loose s with
  | some t => if eOf t = s then 0 else 2
  | none => 2
def unB (s : List UInt8) : List UInt8 := if unE s = 0 then (loose s).getD [] else []
theorem un_esc {l : List UInt8} (h : l.length ≤ 3000) : unE (eOf l) = 0 ∧ unB (eOf l) = l := by
  have h2 := eOf_len l
  have e : unE (eOf l) = 0 := by
    unfold unE
    rw [if_neg (by omega), loose_eOf]
    simp
  refine ⟨e, ?_⟩
  unfold unB
  rw [if_pos e, loose_eOf]
  rfl
/-- Hexadecimal digits in either case. -/
def hexC (s : List UInt8) : Option (List UInt8) := unhex (s.map lowC)
theorem hexC_two (a b : UInt8) : hexC [a, b] = (match nibC a, nibC b with | some x, some y => some [UInt8.ofNat (16 * x + y)] | _, _ => none) := by
  unfold hexC nibC
  show unhex [lowC a, lowC b] = _
  rw [unhex]
  cases nib (lowC a) <;> cases nib (lowC b) <;> rfl
theorem loose_hex (a b : UInt8) (t : List UInt8) : loose (37 :: a :: b :: t) = (match hexC [a, b] with | some x => (loose t).map (x ++ ·) | none => none) := by
  rw [loose_esc, hexC_two]
  cases nibC a <;> cases nibC b <;> rfl
/-- A text read from the left: what has been read, and what is left to be read. -/
theorem loose_step {acc l : List UInt8} {X : Option (List UInt8)} {c : UInt8} (h : (loose (c :: l)).map (acc ++ ·) = X) (hc : c ≠ 37) : (loose l).map ((acc ++ [c]) ++ ·) = X := by
  rw [← h, loose_plain hc]
  cases loose l with
  | none => rfl
  | some u => simp
theorem loose_step3 {acc t : List UInt8} {X : Option (List UInt8)} {a b : UInt8} {x : List UInt8} (h : (loose (37 :: a :: b :: t)).map (acc ++ ·) = X) (hx : hexC [a, b] = some x) : (loose t).map ((acc ++ x) ++ ·) = X := by
  rw [← h, loose_hex, hx]
  cases loose t with
  | none => rfl
  | some u => simp
theorem loose_bad {acc t : List UInt8} {X : Option (List UInt8)} {a b : UInt8} (h : (loose (37 :: a :: b :: t)).map (acc ++ ·) = X) (hx : hexC [a, b] = none) : X = none := by
  rw [← h, loose_hex, hx]
  rfl
theorem loose_short {acc r : List UInt8} {X : Option (List UInt8)} (h : (loose (37 :: r)).map (acc ++ ·) = X) (hr : r.length < 2) : X = none := by
  rw [← h, loose_cut _ hr]
  rfl
/-- Digits in either case, read two at a time. -/
theorem unhex_low : ∀ (s : List UInt8), unhex (s.map lowC) = (match s with | [] => some [] | [_] => none | a :: b :: r => match nibC a, nibC b, unhex (r.map lowC) with | some x, some y, some t => some (UInt8.ofNat (16 * x + y) :: t) | _, _, _ => none)
  | [] => rfl
  | [_] => rfl
  | a :: b :: r => rfl
end Go.Proofs.YtecjdppkpfpniaaGreatDoor
