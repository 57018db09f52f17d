/-
  Messages of local discovery told in plain words: hexadecimal digits, lines that end with two bytes, what is written. Plain Lean, no program. No condition.
-/
import Derived.Test.YtecjdppkpfpniaaGreatDoorBase
import Derived.Lib.SplitLaws
import Derived.Lib.Split
import Derived.Lib.ItoaNum
namespace Go.Proofs.YtecjdppkpfpniaaGreatDoor
set_option linter.unusedSimpArgs false
set_option linter.unusedVariables false

/-! ### digits -/
def hexLows : List UInt8 := [48, 49, 50, 51, 52, 53, 54, 55, 56, 57, 97, 98, 99, 100, 101, 102]
def hexLow (n : Nat) : UInt8 := hexLows.getD n 0
def hexOf (l : List UInt8) : List UInt8 := l.flatMap fun b => [hexLow (b.toNat / 16), hexLow (b.toNat % 16)]
def nib (c : UInt8) : Option Nat := if 48 ≤ c.toNat ∧ c.toNat ≤ 57 then some (c.toNat - 48) else if 97 ≤ c.toNat ∧ c.toNat ≤ 102 then some (c.toNat - 87) else none
def unhex : List UInt8 → Option (List UInt8)
  | [] => some []
  | [_] => none
  | a :: b :: r => match nib a, nib b, unhex r with
    | some x, some y, some t => some (UInt8.ofNat (16 * x + y) :: t)
    | _, _, _ => none
theorem nib_low : ∀ n, n < 16 → nib (hexLow n) = some n := by decide +kernel
theorem low_nib {c : UInt8} {n : Nat} (h : nib c = some n) : hexLow n = c ∧ n < 16 := by
  have key : ∀ k : Nat, k < 256 → ∀ n, nib (UInt8.ofNat k) = some n → hexLow n = UInt8.ofNat k ∧ n < 16 := by
    intro k hk n hn
    have h2 : ∀ k : Nat, k < 256 → (match nib (UInt8.ofNat k) with | some n => decide (hexLow n = UInt8.ofNat k) && decide (n < 16) | none => true) = true := by decide +kernel
    have := h2 k hk
    rw [hn] at this
    simpa using this
  have := key c.toNat c.toNat_lt n (by rw [UInt8.ofNat_toNat]; exact h)
  rwa [UInt8.ofNat_toNat] at this
theorem unhex_hex : ∀ l : List UInt8, unhex (hexOf l) = some l
  | [] => rfl
  | b :: l => by
    have hb := b.toNat_lt
    have e : hexOf (b :: l) = hexLow (b.toNat / 16) :: hexLow (b.toNat % 16) :: hexOf l := rfl
    rw [e, unhex, nib_low _ (by omega), nib_low _ (by omega), unhex_hex l]
    simp only [Option.some.injEq, List.cons.injEq, and_true]
    rw [show 16 * (b.toNat / 16) + b.toNat % 16 = b.toNat by omega, UInt8.ofNat_toNat]
theorem hex_unhex : ∀ (s : List UInt8) {l : List UInt8}, unhex s = some l → s = hexOf l
  | [], l, h => by
    simp only [unhex, Option.some.injEq] at h
    rw [← h]
    rfl
  | [_], l, h => by simp [unhex] at h
  | a :: b :: r, l, h => by
    rw [unhex] at h
    cases ha : nib a with
    | none => rw [ha] at h; simp at h
    | some x =>
      cases hb : nib b with
      | none => rw [ha, hb] at h; simp at h
      | some y =>
        cases hr : unhex r with
        | none => rw [ha, hb, hr] at h; simp at h
        | some t =>
          rw [ha, hb, hr] at h
          simp only [Option.some.injEq] at h
          obtain ⟨e1, l1⟩ := low_nib ha
          obtain ⟨e2, l2⟩ := low_nib hb
          have := hex_unhex r hr
          rw [← h]
          show _ = hexLow ((UInt8.ofNat (16 * x + y)).toNat / 16) :: hexLow ((UInt8.ofNat (16 * x + y)).toNat % 16) :: hexOf t
          rw [UInt8.toNat_ofNat', Nat.mod_eq_of_lt (by omega), show (16 * x + y) / 16 = x by omega, show (16 * x + y) % 16 = y by omega, e1, e2, this]
theorem hex_len : ∀ l : List UInt8, (hexOf l).length = 2 * l.length
  | [] => rfl
  | b :: l => by
    have := hex_len l
    have e : hexOf (b :: l) = hexLow (b.toNat / 16) :: hexLow (b.toNat % 16) :: hexOf l := rfl
    rw [e, List.length_cons, List.length_cons, List.length_cons, this]
    omega
theorem hex_bytes {l : List UInt8} {c : UInt8} (h : c ∈ hexOf l) : 48 ≤ c.toNat ∧ c.toNat ≤ 102 := by
  unfold hexOf at h
  obtain ⟨b, hb, hc⟩ := List.mem_flatMap.1 h
  have hl := b.toNat_lt
  have key : ∀ n, n < 16 → 48 ≤ (hexLow n).toNat ∧ (hexLow n).toNat ≤ 102 := by decide +kernel
  simp only [List.mem_cons, List.mem_nil_iff, or_false] at hc
  rcases hc with rfl | rfl
  · exact key _ (by omega)
  · exact key _ (by omega)
/-! ### lines -/
def joinC : List (List UInt8) → List UInt8
  | [] => []
  | [x] => x
  | x :: y :: r => x ++ [13, 10] ++ joinC (y :: r)
def linesC (s : List UInt8) : List (List UInt8) := Lib.split s [13, 10]
theorem lines_miss {s : List UInt8} (h : Lib.index s [13, 10] = -1) : linesC s = [s] := by
  unfold linesC Lib.split
  rw [Lib.count_miss h]
  rfl
theorem lines_hit {s : List UInt8} {i : Nat} (h : Lib.index s [13, 10] = i) : linesC s = s.take i :: linesC (s.drop (i + 2)) := by
  unfold linesC Lib.split
  rw [Lib.count_hit (by simp) h, Nat.add_comm 1, Lib.splitK, h]
  have e : ((i : Int) == -1) = false := by rw [beq_eq_false_iff_ne]; omega
  rw [e]
  simp only [Bool.false_eq_true, if_false, Int.toNat_natCast, Nat.add_zero]
  rfl
theorem lines_ne (s : List UInt8) : linesC s ≠ [] := by
  rcases Lib.index_spec s [13, 10] with ⟨h, -⟩ | ⟨i, h, -⟩
  · rw [lines_miss h]; simp
  · rw [lines_hit h]; simp
theorem occ_form {s : List UInt8} {i : Nat} (h : Lib.occAt s [13, 10] i = true) : s = s.take i ++ [13, 10] ++ s.drop (i + 2) ∧ i + 2 ≤ s.length := by
  unfold Lib.occAt at h
  have h2 : [13, 10] <+: s.drop i := List.isPrefixOf_iff_prefix.1 h
  obtain ⟨t, ht⟩ := h2
  have hd : s.drop (i + 2) = t := by
    rw [← List.drop_drop, ← ht]
    rfl
  have hl : i + 2 ≤ s.length := by
    have := congrArg List.length ht
    simp only [List.length_append, List.length_cons, List.length_nil, List.length_drop] at this
    omega
  refine ⟨?_, hl⟩
  rw [hd, List.append_assoc, ht, List.take_append_drop]
theorem join_cons2 (x : List UInt8) {L : List (List UInt8)} (h : L ≠ []) : joinC (x :: L) = x ++ [13, 10] ++ joinC L := by
  cases L with
  | nil => exact absurd rfl h
  | cons y r => rfl
theorem join_lines : ∀ (n : Nat) (s : List UInt8), s.length ≤ n → joinC (linesC s) = s := by
  intro n
  induction n with
  | zero =>
    intro s hs
    obtain rfl : s = [] := List.eq_nil_of_length_eq_zero (by omega)
    rw [lines_miss (by decide)]
    rfl
  | succ n ih =>
    intro s hs
    rcases Lib.index_spec s [13, 10] with ⟨h, -⟩ | ⟨i, h, hi, ho, -⟩
    · rw [lines_miss h]
      rfl
    · obtain ⟨e, hl⟩ := occ_form ho
      rw [lines_hit h, join_cons2 _ (lines_ne _), ih _ (by rw [List.length_drop]; omega)]
      exact e.symm
theorem occ_free {L : List UInt8} (h : (13 : UInt8) ∉ L) (r : List UInt8) (j : Nat) (hj : j < L.length) : Lib.occAt (L ++ r) [13, 10] j = false := by
  rw [Bool.eq_false_iff]
  intro q
  unfold Lib.occAt at q
  obtain ⟨t, ht⟩ := List.isPrefixOf_iff_prefix.1 q
  have h1 : (L ++ r)[j]? = some 13 := by
    have := congrArg (fun x => x[0]?) ht
    simp only [List.cons_append, List.getElem?_cons_zero, List.getElem?_drop, Nat.add_zero] at this
    exact this.symm
  rw [List.getElem?_append_left hj] at h1
  exact h (List.mem_of_getElem? h1)
theorem index_line {L : List UInt8} (h : (13 : UInt8) ∉ L) (r : List UInt8) : Lib.index (L ++ [13, 10] ++ r) [13, 10] = L.length := by
  refine Lib.index_first (by simp) ?_ (fun j hj => by rw [List.append_assoc]; exact occ_free h _ j hj)
  unfold Lib.occAt
  rw [List.append_assoc, List.drop_left]
  simp
theorem index_free {L : List UInt8} (h : (13 : UInt8) ∉ L) : Lib.index L [13, 10] = -1 := by
  refine Lib.index_none (fun j hj => ?_)
  rcases Nat.lt_or_ge j L.length with q | q
  · have := occ_free h [] j q
    rwa [List.append_nil] at this
  · unfold Lib.occAt
    rw [List.drop_eq_nil_of_le q]
    rfl
theorem lines_join : ∀ (Ls : List (List UInt8)), Ls ≠ [] → (∀ L ∈ Ls, (13 : UInt8) ∉ L) → linesC (joinC Ls) = Ls
  | [], h, _ => absurd rfl h
  | [x], _, h => lines_miss (index_free (h x (by simp)))
  | x :: y :: r, _, h => by
    have hx := h x (by simp)
    rw [joinC, lines_hit (index_line hx _), List.append_assoc, List.take_left]
    have e : (x ++ ([13, 10] ++ joinC (y :: r))).drop (x.length + 2) = joinC (y :: r) := by
      rw [← List.drop_drop, List.drop_left]
      rfl
    rw [e, lines_join (y :: r) (by simp) (fun L hL => h L (by simp [hL]))]
/-! ### messages -/
structure MsgV where
  port : Int
  names : List ByteArray
  cookie : ByteArray
def firstL : List UInt8 := [67, 65, 76, 76, 32, 42, 32, 67, 79, 86, 69, 89, 47, 49]
def portL : List UInt8 := [80, 111, 114, 116, 58, 32]
def nameL : List UInt8 := [78, 97, 109, 101, 58, 32]
def cookL : List UInt8 := [67, 111, 111, 107, 105, 101, 58, 32]
/-- The lines of a message; the last one stands behind the last line's end. -/
def linesW (m : MsgV) : List (List UInt8) := firstL :: (portL ++ Lib.itoa m.port) :: (m.names.map (fun n => nameL ++ hexOf n.data.toList) ++ [cookL ++ m.cookie.data.toList, [], []])
def writtenL (m : MsgV) : List UInt8 := joinC (linesW m)
def cookieOk (c : ByteArray) : Bool := c.data.toList.all (fun b => decide (33 ≤ b.toNat) && decide (b.toNat ≤ 126)) && decide (1 ≤ c.size) && decide (c.size ≤ 30)
theorem less_total : ∀ (x y : List UInt8), (Op.bytesLess x y || x == y) = !(Op.bytesLess y x)
  | [], [] => rfl
  | [], b :: y => rfl
  | a :: x, [] => rfl
  | a :: x, b :: y => by
    have ih := less_total x y
    simp only [Op.bytesLess]
    by_cases h1 : a < b
    · have h2 : ¬ b < a := by rw [UInt8.lt_iff_toNat_lt] at *; omega
      have h3 : (b == a) = false := by rw [beq_eq_false_iff_ne]; intro q; rw [q] at h1; rw [UInt8.lt_iff_toNat_lt] at h1; omega
      simp [h1, h2, h3]
    · by_cases h2 : b < a
      · have h3 : ¬ a = b := by intro q; rw [q] at h2; rw [UInt8.lt_iff_toNat_lt] at h2; omega
        simp [h1, h2, h3]
      · have h3 : a = b := by apply UInt8.toNat_inj.1; rw [UInt8.lt_iff_toNat_lt] at *; omega
        subst h3
        simpa [h1] using ih
/-- The i-th name is one, and behind the one before it. -/
def nameAt (l : List ByteArray) (i : Nat) : Bool := match l[i]? with
  | some n => decide (n.size = 20) && (match i with | 0 => true | j + 1 => (match l[j]? with | some p => Op.bytesLess p.toList n.toList | none => false))
  | none => false
def namesB (l : List ByteArray) : Bool := (List.range l.length).all (nameAt l) && decide (1 ≤ l.length) && decide (l.length ≤ 20)
def validM (m : MsgV) : Bool := decide (1 ≤ m.port) && decide (m.port ≤ 65535) && namesB m.names && cookieOk m.cookie
end Go.Proofs.YtecjdppkpfpniaaGreatDoor
