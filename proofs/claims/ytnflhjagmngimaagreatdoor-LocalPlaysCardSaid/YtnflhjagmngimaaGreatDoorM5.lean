/-
  Several texts in one, in their build order. Bytes that a call writes into a slice of its own: how they lie, appended, changed, and read back as a text. Condition: as told. Messages of local discovery told in plain words: hexadecimal digits, lines that end with two bytes, what is written. Plain Lean, no program. No condition. Numbers: what is written in decimal digits is read back. Plain Lean, no program. No condition.
-/
import Derived.Test.YtnflhjagmngimaaGreatDoorM3
import Derived.Laws.BytesArg
import Derived.OwnWalk
import Derived.Deep.Onto
import Derived.Maps.AppendAt
import Derived.Test.YtnflhjagmngimaaGreatDoorM1
import Derived.Lib.SplitLaws
import Derived.Lib.Split
import Derived.Lib.ItoaNum
import Derived.Lib.AtoiAll
namespace Go.Proofs.YtnflhjagmngimaaGreatDoor
set_option linter.unusedSimpArgs false
set_option linter.unusedVariables false
open Go.RowKit

theorem info_byte : (Tryz.prog.info? 5).map (fun i => (i.zero, i.size, i.bytes)) = some (some (.int .u8 0), 1, 1) := by kernel_rfl
def byV (l : List UInt8) : List Value := l.map (fun b => Value.int .u8 (b.toNat : Int))
theorem byV_app (l r : List UInt8) : byV l ++ byV r = byV (l ++ r) := by simp [byV]
/-- The slice v, of the call's own memory from block base on, holds the bytes l. -/
def OwnY (w : World) (base : Nat) (v : Value) (l : List UInt8) : Prop := w.ownsRow base 5 1 v l.length (byV l)
theorem OwnY.nil (w : World) (base : Nat) : OwnY w base (.slice none 0 0) [] := World.ownsRow_nil _ _ _ _
theorem grown_newY {w w' : World} (n : New w w') (row : Option Nat) : w.grownBy w' row := ⟨n.os, n.tape, n.output, n.size, fun k hk _ => n.block k hk (fun x => x)⟩
theorem OwnY.new {w w' : World} {base : Nat} {v : Value} {l : List UInt8} (h : OwnY w base v l) (n : New w w') : OwnY w' base v l := by
  unfold OwnY at *
  cases hv : v.ownBlock with
  | none => exact h.kept (grown_newY n none) (.inl hv)
  | some k => exact h.kept (grown_newY n none) (.inr (by rw [hv]; simp))
theorem OwnY.form {w : World} {base : Nat} {v : Value} {l : List UInt8} (h : OwnY w base v l) : (v = .slice none 0 0 ∧ l = []) ∨ ∃ g cap, v = .slice (some ⟨g, 0, none⟩) l.length cap ∧ base ≤ g ∧ g < w.heap.size ∧ l.length ≤ cap ∧ cap ≤ maxLen ∧ (∀ (i : Nat) (hi : i < l.length), w.cell? ⟨g, i, none⟩ = some (.int .u8 (l[i].toNat : Int))) ∧ ∀ i, w.frozen? ⟨g, i, none⟩ = false := by
  rcases h.2 with ⟨rfl, hn⟩ | ⟨g, cap, cur, rfl, hbg, hg, hnc, hcm, hcs, htake⟩
  · exact .inl ⟨rfl, List.eq_nil_of_length_eq_zero hn⟩
  · refine .inr ⟨g, cap, rfl, hbg, (Array.getElem?_eq_some_iff.1 hg).1, hnc, hcm, fun i hi => ?_, fun i => by simp [World.frozen?, hg]⟩
    have h1 : (byV l)[i]? = some (.int .u8 (l[i].toNat : Int)) := by simp [byV, hi]
    rw [← htake, List.getElem?_take, if_pos (by omega)] at h1
    simp [World.cell?, hg]
    simpa using h1
theorem ownY_text {w : World} {base : Nat} {v : Value} {l : List UInt8} (h : OwnY w base v l) : (convert 100 9 v).run Tryz.prog w = .ok (.string ⟨l.toArray⟩) w := by
  rcases h.form with ⟨rfl, rfl⟩ | ⟨g, cap, rfl, -, -, -, -, hc, -⟩
  · exact run_convert_bytes_nil w 100 5 Tryz.underlying100 Tryz.underlying5 0 0 9 Tryz.underlying9
  · have := run_convert_bytes_arg (P := Tryz.prog) w 100 5 Tryz.underlying100 Tryz.underlying5 g 0 l.length cap (l.map (fun b => (b.toNat : Int))) (by simp) (fun i hi => by
      rw [Nat.zero_add, hc i hi]
      simp [List.getD, hi]) 9 Tryz.underlying9
    rw [this]
    have e : strOfNums (l.map (fun b => (b.toNat : Int))) = ⟨l.toArray⟩ := by
      unfold strOfNums
      rw [List.map_map]
      have : ((fun n : Int => UInt8.ofNat n.toNat) ∘ fun b : UInt8 => (b.toNat : Int)) = id := by
        funext b
        simp
      rw [this, List.map_id]
    rw [e]
theorem list_take_set {α : Type} (l : List α) (n i : Nat) (x : α) (h : i < n) : (l.set i x).take n = (l.take n).set i x := by
  apply List.ext_getElem?
  intro j
  rw [List.getElem?_take, List.getElem?_set, List.getElem?_set, List.getElem?_take, List.length_take]
  by_cases h1 : j < n
  · rw [if_pos h1, if_pos h1]
    by_cases h2 : i = j
    · rw [if_pos h2, if_pos h2]
      by_cases h3 : i < l.length
      · rw [if_pos h3, if_pos (by omega)]
      · rw [if_neg h3, if_neg (by omega)]
    · rw [if_neg h2, if_neg h2]
  · rw [if_neg h1, if_neg h1, if_neg (by omega)]
/-- A byte of it is written anew. -/
theorem OwnY.put {w : World} {base g cap : Nat} {l : List UInt8} (h : OwnY w base (.slice (some ⟨g, 0, none⟩) l.length cap) l) {i : Nat} (hi : i < l.length) (b : UInt8) : OwnY (w.setCell ⟨g, i, none⟩ (.int .u8 (b.toNat : Int))) base (.slice (some ⟨g, 0, none⟩) l.length cap) (l.set i b) := by
  rcases h.2 with ⟨q, -⟩ | ⟨g', cap', cur, q, hbg, hg, hnc, hcm, hcs, htake⟩
  · cases q
  · injection q with q1 q2 q3
    injection q1 with q1
    injection q1 with q1
    subst q1 q3
    have hb : Blk w g cur 5 := hg
    have hs := hb.set i (.int .u8 (b.toNat : Int))
    refine ⟨by simp [byV], .inr ⟨g, cap, cur.setIfInBounds i (.int .u8 (b.toNat : Int)), by rw [List.length_set], hbg, hs, by rw [List.length_set]; exact hnc, hcm, by simpa using hcs, ?_⟩⟩
    rw [List.length_set, Array.toList_setIfInBounds, list_take_set _ _ _ _ (by omega), htake]
    simp [byV, List.map_set]
theorem OwnY.block {w : World} {base g : Nat} {v : Value} {l : List UInt8} (h : OwnY w base v l) (hv : v.ownBlock = some g) : base ≤ g := by
  rcases h.form with ⟨rfl, -⟩ | ⟨g', cap, rfl, h1, -⟩
  · cases hv
  · injection hv with hv
    subst hv
    exact h1
theorem new_grownY {w w0 w' : World} {base : Nat} {v : Value} {l : List UInt8} (h : OwnY w base v l) (hb : w0.heap.size ≤ base) (n : New w0 w) (g : w.grownBy w' v.ownBlock) : New w0 w' :=
  ⟨g.os.trans n.os, g.tape.trans n.tape, g.output.trans n.output, Nat.le_trans n.size g.size, fun k hk hx => (g.block k (Nat.lt_of_lt_of_le hk n.size) (fun q => by have := h.block q.symm; omega)).trans (n.block k hk hx)⟩
theorem new_putY {w w0 : World} {g i : Nat} {u : Value} (n : New w0 w) (hb : w0.heap.size ≤ g) : New w0 (w.setCell ⟨g, i, none⟩ u) := n.set _ _ (.inr hb)
theorem ownY_of {w : World} {base : Nat} {v : Value} {l : List UInt8} (r : List UInt8) (h : w.ownsRow base 5 1 v (l.length + r.length) (byV l ++ byV r)) : OwnY w base v (l ++ r) := by
  unfold OwnY
  rw [List.length_append, ← byV_app]
  exact h
end Go.Proofs.YtnflhjagmngimaaGreatDoor

namespace Go.Proofs.YtnflhjagmngimaaGreatDoor
set_option linter.unusedSimpArgs false
set_option linter.unusedVariables false

/-! ### digits -/
def hexLows : List UInt8 := [48, 49, 50, 51, 52, 53, 54, 55, 56, 57, 97, 98, 99, 100, 101, 102]
def hexLow (n : Nat) : UInt8 := hexLows.getD n 0
def hexOf (l : List UInt8) : List UInt8 := l.flatMap fun b => [hexLow (b.toNat / 16), hexLow (b.toNat % 16)]
def nib (c : UInt8) : Option Nat := if 48 ≤ c.toNat ∧ c.toNat ≤ 57 then some (c.toNat - 48) else if 97 ≤ c.toNat ∧ c.toNat ≤ 102 then some (c.toNat - 87) else none
def unhex : List UInt8 → Option (List UInt8)
  | [] => some []
  | [_] => none
  | a :: b :: r => match nib a, nib b, unhex r with
    | some x, some y, some t => some (UInt8.ofNat (16 * x + y) :: t)
    | _, _, _ => none
theorem nib_low : ∀ n, n < 16 → nib (hexLow n) = some n := by decide +kernel
theorem low_nib {c : UInt8} {n : Nat} (h : nib c = some n) : hexLow n = c ∧ n < 16 := by
  have key : ∀ k : Nat, k < 256 → ∀ n, nib (UInt8.ofNat k) = some n → hexLow n = UInt8.ofNat k ∧ n < 16 := by
    intro k hk n hn
    have h2 : ∀ k : Nat, k < 256 → (match nib (UInt8.ofNat k) with | some n => decide (hexLow n = UInt8.ofNat k) && decide (n < 16) | none => true) = true := by decide +kernel
    have := h2 k hk
    rw [hn] at this
    simpa using this
  have := key c.toNat c.toNat_lt n (by rw [UInt8.ofNat_toNat]; exact h)
  rwa [UInt8.ofNat_toNat] at this
theorem unhex_hex : ∀ l : List UInt8, unhex (hexOf l) = some l
  | [] => rfl
  | b :: l => by
    have hb := b.toNat_lt
    have e : hexOf (b :: l) = hexLow (b.toNat / 16) :: hexLow (b.toNat % 16) :: hexOf l := rfl
    rw [e, unhex, nib_low _ (by omega), nib_low _ (by omega), unhex_hex l]
    simp only [Option.some.injEq, List.cons.injEq, and_true]
    rw [show 16 * (b.toNat / 16) + b.toNat % 16 = b.toNat by omega, UInt8.ofNat_toNat]
theorem hex_unhex : ∀ (s : List UInt8) {l : List UInt8}, unhex s = some l → s = hexOf l
  | [], l, h => by
    simp only [unhex, Option.some.injEq] at h
    rw [← h]
    rfl
  | [_], l, h => by simp [unhex] at h
  | a :: b :: r, l, h => by
    rw [unhex] at h
    cases ha : nib a with
    | none => rw [ha] at h; simp at h
    | some x =>
      cases hb : nib b with
      | none => rw [ha, hb] at h; simp at h
      | some y =>
        cases hr : unhex r with
        | none => rw [ha, hb, hr] at h; simp at h
        | some t =>
          rw [ha, hb, hr] at h
          simp only [Option.some.injEq] at h
          obtain ⟨e1, l1⟩ := low_nib ha
          obtain ⟨e2, l2⟩ := low_nib hb
          have := hex_unhex r hr
          rw [← h]
          show _ = hexLow ((UInt8.ofNat (16 * x + y)).toNat / 16) :: hexLow ((UInt8.ofNat (16 * x + y)).toNat % 16) :: hexOf t
          rw [UInt8.toNat_ofNat', Nat.mod_eq_of_lt (by omega), show (16 * x + y) / 16 = x by omega, show (16 * x + y) % 16 = y by omega, e1, e2, this]
theorem hex_len : ∀ l : List UInt8, (hexOf l).length = 2 * l.length
  | [] => rfl
  | b :: l => by
    have := hex_len l
    have e : hexOf (b :: l) = hexLow (b.toNat / 16) :: hexLow (b.toNat % 16) :: hexOf l := rfl
    rw [e, List.length_cons, List.length_cons, List.length_cons, this]
    omega
theorem hex_bytes {l : List UInt8} {c : UInt8} (h : c ∈ hexOf l) : 48 ≤ c.toNat ∧ c.toNat ≤ 102 := by
  unfold hexOf at h
  obtain ⟨b, hb, hc⟩ := List.mem_flatMap.1 h
  have hl := b.toNat_lt
  have key : ∀ n, n < 16 → 48 ≤ (hexLow n).toNat ∧ (hexLow n).toNat ≤ 102 := by decide +kernel
  simp only [List.mem_cons, List.mem_nil_iff, or_false] at hc
  rcases hc with rfl | rfl
  · exact key _ (by omega)
  · exact key _ (by omega)
/-! ### lines -/
def joinC : List (List UInt8) → List UInt8
  | [] => []
  | [x] => x
  | x :: y :: r => x ++ [13, 10] ++ joinC (y :: r)
def linesC (s : List UInt8) : List (List UInt8) := Lib.split s [13, 10]
theorem lines_miss {s : List UInt8} (h : Lib.index s [13, 10] = -1) : linesC s = [s] := by
  unfold linesC Lib.split
  rw [Lib.count_miss h]
  rfl
theorem lines_hit {s : List UInt8} {i : Nat} (h : Lib.index s [13, 10] = i) : linesC s = s.take i :: linesC (s.drop (i + 2)) := by
  unfold linesC Lib.split
  rw [Lib.count_hit (by simp) h, Nat.add_comm 1, Lib.splitK, h]
  have e : ((i : Int) == -1) = false := by rw [beq_eq_false_iff_ne]; omega
  rw [e]
  simp only [Bool.false_eq_true, if_false, Int.toNat_natCast, Nat.add_zero]
  rfl
theorem lines_ne (s : List UInt8) : linesC s ≠ [] := by
  rcases Lib.index_spec s [13, 10] with ⟨h, -⟩ | ⟨i, h, -⟩
  · rw [lines_miss h]; simp
  · rw [lines_hit h]; simp
theorem occ_form {s : List UInt8} {i : Nat} (h : Lib.occAt s [13, 10] i = true) : s = s.take i ++ [13, 10] ++ s.drop (i + 2) ∧ i + 2 ≤ s.length := by
  unfold Lib.occAt at h
  have h2 : [13, 10] <+: s.drop i := List.isPrefixOf_iff_prefix.1 h
  obtain ⟨t, ht⟩ := h2
  have hd : s.drop (i + 2) = t := by
    rw [← List.drop_drop, ← ht]
    rfl
  have hl : i + 2 ≤ s.length := by
    have := congrArg List.length ht
    simp only [List.length_append, List.length_cons, List.length_nil, List.length_drop] at this
    omega
  refine ⟨?_, hl⟩
  rw [hd, List.append_assoc, ht, List.take_append_drop]
theorem join_cons2 (x : List UInt8) {L : List (List UInt8)} (h : L ≠ []) : joinC (x :: L) = x ++ [13, 10] ++ joinC L := by
  cases L with
  | nil => exact absurd rfl h
  | cons y r => rfl
theorem join_lines : ∀ (n : Nat) (s : List UInt8), s.length ≤ n → joinC (linesC s) = s := by
  intro n
  induction n with
  | zero =>
    intro s hs
    obtain rfl : s = [] := List.eq_nil_of_length_eq_zero (by omega)
    rw [lines_miss (by decide)]
    rfl
  | succ n ih =>
    intro s hs
    rcases Lib.index_spec s [13, 10] with ⟨h, -⟩ | ⟨i, h, hi, ho, -⟩
    · rw [lines_miss h]
      rfl
    · obtain ⟨e, hl⟩ := occ_form ho
      rw [lines_hit h, join_cons2 _ (lines_ne _), ih _ (by rw [List.length_drop]; omega)]
      exact e.symm
theorem occ_free {L : List UInt8} (h : (13 : UInt8) ∉ L) (r : List UInt8) (j : Nat) (hj : j < L.length) : Lib.occAt (L ++ r) [13, 10] j = false := by
  rw [Bool.eq_false_iff]
  intro q
  unfold Lib.occAt at q
  obtain ⟨t, ht⟩ := List.isPrefixOf_iff_prefix.1 q
  have h1 : (L ++ r)[j]? = some 13 := by
    have := congrArg (fun x => x[0]?) ht
    simp only [List.cons_append, List.getElem?_cons_zero, List.getElem?_drop, Nat.add_zero] at this
    exact this.symm
  rw [List.getElem?_append_left hj] at h1
  exact h (List.mem_of_getElem? h1)
theorem index_line {L : List UInt8} (h : (13 : UInt8) ∉ L) (r : List UInt8) : Lib.index (L ++ [13, 10] ++ r) [13, 10] = L.length := by
  refine Lib.index_first (by simp) ?_ (fun j hj => by rw [List.append_assoc]; exact occ_free h _ j hj)
  unfold Lib.occAt
  rw [List.append_assoc, List.drop_left]
  simp
theorem index_free {L : List UInt8} (h : (13 : UInt8) ∉ L) : Lib.index L [13, 10] = -1 := by
  refine Lib.index_none (fun j hj => ?_)
  rcases Nat.lt_or_ge j L.length with q | q
  · have := occ_free h [] j q
    rwa [List.append_nil] at this
  · unfold Lib.occAt
    rw [List.drop_eq_nil_of_le q]
    rfl
theorem lines_join : ∀ (Ls : List (List UInt8)), Ls ≠ [] → (∀ L ∈ Ls, (13 : UInt8) ∉ L) → linesC (joinC Ls) = Ls
  | [], h, _ => absurd rfl h
  | [x], _, h => lines_miss (index_free (h x (by simp)))
  | x :: y :: r, _, h => by
    have hx := h x (by simp)
    rw [joinC, lines_hit (index_line hx _), List.append_assoc, List.take_left]
    have e : (x ++ ([13, 10] ++ joinC (y :: r))).drop (x.length + 2) = joinC (y :: r) := by
      rw [← List.drop_drop, List.drop_left]
      rfl
    rw [e, lines_join (y :: r) (by simp) (fun L hL => h L (by simp [hL]))]
/-! ### messages -/
structure MsgV where
  port : Int
  names : List ByteArray
  cookie : ByteArray
def firstL : List UInt8 := [67, 65, 76, 76, 32, 42, 32, 67, 79, 86, 69, 89, 47, 49]
def portL : List UInt8 := [80, 111, 114, 116, 58, 32]
def nameL : List UInt8 := [78, 97, 109, 101, 58, 32]
def cookL : List UInt8 := [67, 111, 111, 107, 105, 101, 58, 32]
/-- The lines of a message; the last one stands behind the last line's end. -/
def linesW (m : MsgV) : List (List UInt8) := firstL :: (portL ++ Lib.itoa m.port) :: (m.names.map (fun n => nameL ++ hexOf n.data.toList) ++ [cookL ++ m.cookie.data.toList, [], []])
def writtenL (m : MsgV) : List UInt8 := joinC (linesW m)
def cookieOk (c : ByteArray) : Bool := c.data.toList.all (fun b => decide (33 ≤ b.toNat) && decide (b.toNat ≤ 126)) && decide (1 ≤ c.size) && decide (c.size ≤ 30)
theorem less_total : ∀ (x y : List UInt8), (Op.bytesLess x y || x == y) = !(Op.bytesLess y x)
  | [], [] => rfl
  | [], b :: y => rfl
  | a :: x, [] => rfl
  | a :: x, b :: y => by
    have ih := less_total x y
    simp only [Op.bytesLess]
    by_cases h1 : a < b
    · have h2 : ¬ b < a := by rw [UInt8.lt_iff_toNat_lt] at *; omega
      have h3 : (b == a) = false := by rw [beq_eq_false_iff_ne]; intro q; rw [q] at h1; rw [UInt8.lt_iff_toNat_lt] at h1; omega
      simp [h1, h2, h3]
    · by_cases h2 : b < a
      · have h3 : ¬ a = b := by intro q; rw [q] at h2; rw [UInt8.lt_iff_toNat_lt] at h2; omega
        simp [h1, h2, h3]
      · have h3 : a = b := by apply UInt8.toNat_inj.1; rw [UInt8.lt_iff_toNat_lt] at *; omega
        subst h3
        simpa [h1] using ih
/-- The i-th name is one, and behind the one before it. -/
def nameAt (l : List ByteArray) (i : Nat) : Bool := match l[i]? with
  | some n => decide (n.size = 20) && (match i with | 0 => true | j + 1 => (match l[j]? with | some p => Op.bytesLess p.toList n.toList | none => false))
  | none => false
def namesB (l : List ByteArray) : Bool := (List.range l.length).all (nameAt l) && decide (1 ≤ l.length) && decide (l.length ≤ 20)
def validM (m : MsgV) : Bool := decide (1 ≤ m.port) && decide (m.port ≤ 65535) && namesB m.names && cookieOk m.cookie
end Go.Proofs.YtnflhjagmngimaaGreatDoor

namespace Go.Proofs.YtnflhjagmngimaaGreatDoor
set_option linter.unusedSimpArgs false
set_option linter.unusedVariables false

def digL (b : UInt8) : Bool := decide (48 ≤ b.toNat) && decide (b.toNat ≤ 57)
def decF (a : Nat) (ds : List UInt8) : Nat := ds.foldl (fun a c => a * 10 + (c.toNat - 48)) a
theorem decF_ge : ∀ (ds : List UInt8) (a : Nat), a ≤ decF a ds
  | [], a => Nat.le_refl _
  | c :: r, a => by
    have := decF_ge r (a * 10 + (c.toNat - 48))
    simp only [decF, List.foldl_cons] at *
    omega
theorem decF_cons (c : UInt8) (r : List UInt8) (a : Nat) : decF a (c :: r) = decF (a * 10 + (c.toNat - 48)) r := by simp only [decF, List.foldl_cons]
theorem parse10L (ds : List UInt8) : ∀ (a : Nat), ds.all digL = true → a < 18446744073709551616 → Lib.parseUint10 a ds = if decF a ds < 18446744073709551616 then .ok (decF a ds) else .range := by
  induction ds with
  | nil =>
    intro a _ ha
    have e : decF a [] = a := by simp only [decF, List.foldl_nil]
    rw [e, if_pos ha]
    simp only [Lib.parseUint10]
  | cons c r ih =>
    intro a h ha
    rw [List.all_cons, Bool.and_eq_true] at h
    obtain ⟨h1, h3⟩ := h
    simp only [digL, Bool.and_eq_true, decide_eq_true_eq] at h1
    have hge := decF_ge r (a * 10 + (c.toNat - 48))
    simp only [Lib.parseUint10]
    rw [if_pos h1, decF_cons]
    obtain ⟨v, hv⟩ : ∃ v, v = decF (a * 10 + (c.toNat - 48)) r := ⟨_, rfl⟩
    have ih := ih (a * 10 + (c.toNat - 48)) h3
    rw [← hv] at ih hge ⊢
    by_cases b1 : 1844674407370955162 ≤ a
    · rw [if_pos b1, if_neg (by omega)]
    · rw [if_neg b1]
      by_cases b2 : 18446744073709551616 ≤ a * 10 + (c.toNat - 48)
      · rw [if_pos b2, if_neg (by omega)]
      · rw [if_neg b2]
        exact ih (by omega)
theorem atoi_digL {ds : List UInt8} (h : ds.all digL = true) (hne : ds ≠ []) : Lib.atoiAll ds = if decF 0 ds ≤ 9223372036854775807 then .ok (decF 0 ds) else .range := by
  cases ds with
  | nil => exact absurd rfl hne
  | cons c r =>
    have h0 := h
    simp only [List.all_cons, Bool.and_eq_true, digL, decide_eq_true_eq] at h
    obtain ⟨⟨h1, h2⟩, h3⟩ := h
    have hp : Lib.parseMag (c :: r) = if decF 0 (c :: r) < 18446744073709551616 then .ok (decF 0 (c :: r)) else .range := by
      rw [Lib.parseMag, if_neg (by simp)]
      exact parse10L _ 0 h0 (by omega)
    simp only [Lib.atoiAll]
    rw [if_neg (show ¬ (c.toNat = 43 ∨ c.toNat = 45) by omega), hp]
    by_cases b1 : decF 0 (c :: r) < 18446744073709551616
    · rw [if_pos b1]
      simp only
      by_cases b2 : decF 0 (c :: r) ≤ 9223372036854775807
      · rw [if_pos b2, if_neg (by omega), if_neg (by omega), if_neg (by omega)]
      · rw [if_neg b2, if_pos (by omega)]
    · rw [if_neg b1, if_neg (by omega)]
theorem decF_snoc (ds : List UInt8) (d : UInt8) : decF 0 (ds ++ [d]) = decF 0 ds * 10 + (d.toNat - 48) := by simp [decF]
theorem digL_mk {u : Nat} (h : u < 10) : digL (UInt8.ofNat (48 + u)) = true ∧ (UInt8.ofNat (48 + u)).toNat - 48 = u := by
  have e : (UInt8.ofNat (48 + u)).toNat = 48 + u := by
    rw [UInt8.toNat_ofNat']
    omega
  constructor
  · simp [digL, e]
    omega
  · omega
theorem dec_readL (u : Nat) : decF 0 (Lib.decDigits u) = u ∧ (Lib.decDigits u).all digL = true ∧ Lib.decDigits u ≠ [] := by
  induction u using Nat.strongRecOn with
  | ind u ih =>
    by_cases h : u < 10
    · obtain ⟨i1, i2⟩ := digL_mk h
      rw [Lib.decDigits_one h]
      refine ⟨by show 0 * 10 + ((UInt8.ofNat (48 + u)).toNat - 48) = u; omega, by rw [List.all_cons, List.all_nil, i1]; rfl, by simp⟩
    · obtain ⟨a1, a2, a3⟩ := ih (u / 10) (by omega)
      obtain ⟨i1, i2⟩ := digL_mk (show u % 10 < 10 by omega)
      rw [Lib.decDigits, dif_neg h]
      exact ⟨by rw [decF_snoc, a1, i2]; omega, by rw [List.all_append, a2, List.all_cons, List.all_nil, i1]; rfl, by simp⟩
theorem atoi_itoaL {n : Int} (h0 : 0 ≤ n) (h1 : n ≤ 200000) : Lib.atoiAll (Lib.itoa n) = .ok n := by
  obtain ⟨u, rfl⟩ := Int.eq_ofNat_of_zero_le h0
  obtain ⟨d1, d2, d3⟩ := dec_readL u
  rw [Lib.itoa_nonneg, atoi_digL d2 d3, d1, if_pos (by omega)]
theorem itoa_bytesL {n : Int} (h0 : 0 ≤ n) {c : UInt8} (h : c ∈ Lib.itoa n) : 48 ≤ c.toNat ∧ c.toNat ≤ 57 := by
  obtain ⟨u, rfl⟩ := Int.eq_ofNat_of_zero_le h0
  obtain ⟨d1, d2, d3⟩ := dec_readL u
  rw [Lib.itoa_nonneg] at h
  have := List.all_eq_true.1 d2 c h
  simpa [digL] using this
theorem itoa_short {n : Int} (h0 : 1 ≤ n) (h1 : n ≤ 65535) : (Lib.itoa n).length ≤ 21 := Lib.itoa_length_le n (by omega) (by omega)
/-- Atoi's number of whatever text. -/
def atoiV (l : List UInt8) : Int := match Lib.atoiAll l with
  | .ok v => v
  | .range => Lib.atoiSat l
  | _ => 0
end Go.Proofs.YtnflhjagmngimaaGreatDoor
