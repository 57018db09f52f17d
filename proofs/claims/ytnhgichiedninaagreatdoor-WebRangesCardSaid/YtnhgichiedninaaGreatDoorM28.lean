/-
  Several texts in one, in their build order. The walks of bare (of a list without pads) and aligned. Conditions as told. When a list of files is valid, told at once; a padded list is valid; its bare list is the bare one. Plain Lean, no program. No condition.
-/
import Derived.Test.YtnhgichiedninaaGreatDoorM19
namespace Go.Proofs.YtnhgichiedninaaGreatDoor
set_option linter.unusedSimpArgs false
set_option linter.unusedVariables false
open Go.RowKit

theorem mask_pow (x : Int) (j : Nat) (hj : j ≤ 10) : bits BinOp.and IntKind.i64 x (((2 ^ j : Nat) : Int) - 1) = x % ((2 ^ j : Nat) : Int) := by
  have hp : 2 ^ j ≤ 1024 := Nat.pow_le_pow_right (by omega) hj
  have hp0 : 0 < 2 ^ j := Nat.two_pow_pos j
  have hd : ((2 ^ j : Nat) : Int) ∣ 18446744073709551616 := by
    have : (2 ^ j : Nat) ∣ 2 ^ 64 := Nat.pow_dvd_pow 2 (by omega)
    have e : (18446744073709551616 : Int) = ((2 ^ 64 : Nat) : Int) := by decide
    rw [e]
    exact Int.natCast_dvd_natCast.2 this
  have h1 : (BitVec.ofInt 64 (((2 ^ j : Nat) : Int) - 1)).toNat = 2 ^ j - 1 := by
    rw [BitVec.toNat_ofInt]
    have : ((((2 ^ j : Nat) : Int) - 1) % ((2 ^ 64 : Nat) : Int)) = ((2 ^ j : Nat) : Int) - 1 := Int.emod_eq_of_lt (by omega) (by
      have : (((2 : Nat) ^ 64 : Nat) : Int) = 18446744073709551616 := by decide
      omega)
    omega
  have h2 : (BitVec.ofInt 64 x &&& BitVec.ofInt 64 (((2 ^ j : Nat) : Int) - 1)).toNat = (x % 18446744073709551616).toNat % 2 ^ j := by
    rw [BitVec.toNat_and, h1, Nat.and_two_pow_sub_one_eq_mod, BitVec.toNat_ofInt]
    rfl
  have h3 : (((x % 18446744073709551616).toNat % 2 ^ j : Nat) : Int) = x % ((2 ^ j : Nat) : Int) := by
    rw [Int.natCast_emod, Int.toNat_of_nonneg (Int.emod_nonneg _ (by decide)), Int.emod_emod_of_dvd _ hd]
  show IntKind.i64.wrap (((BitVec.ofInt 64 x &&& BitVec.ofInt 64 (((2 ^ j : Nat) : Int) - 1)).toNat : Nat) : Int) = _
  rw [h2, h3]
  have q0 := Int.emod_nonneg x (show ((2 ^ j : Nat) : Int) ≠ 0 by omega)
  have q1 := Int.emod_lt_of_pos x (show 0 < ((2 ^ j : Nat) : Int) by omega)
  exact IntWalk.i64_in _ (by omega)
theorem lack_is {piece : Int} (h : pieceOf piece = true) (row : Int) : bits BinOp.and IntKind.i64 (-row) (piece - 1) = (-row) % piece := by
  simp only [pieceOf, decide_eq_true_eq] at h
  rcases h with rfl | rfl | rfl | rfl | rfl | rfl | rfl
  · exact mask_pow _ 4 (by omega)
  · exact mask_pow _ 5 (by omega)
  · exact mask_pow _ 6 (by omega)
  · exact mask_pow _ 7 (by omega)
  · exact mask_pow _ 8 (by omega)
  · exact mask_pow _ 9 (by omega)
  · exact mask_pow _ 10 (by omega)

/-- The pads that make a list aligned. -/
def lackOf (row piece : Int) : Int := (-row) % piece
def padded (piece : Int) : Int → List FileV → List FileV
  | _, [] => []
  | row, f :: r => if 0 < f.len ∧ 0 < lackOf row piece then ⟨padPath (lackOf row piece), lackOf row piece, true⟩ :: f :: padded piece (row + lackOf row piece + f.len) r else f :: padded piece (row + f.len) r
theorem padded_pos {piece x : Int} {f : FileV} {r : List FileV} (h : 0 < f.len ∧ 0 < (-x) % piece) : padded piece x (f :: r) = ⟨padPath ((-x) % piece), (-x) % piece, true⟩ :: f :: padded piece (x + (-x) % piece + f.len) r := by
  rw [padded]
  exact if_pos h

theorem strs_two (w : World) (n : Int) (hs : (itoaB n).size ≤ 21) : StrsAt (w.alloc (.cells #[.string ⟨#[46, 112, 97, 100]⟩, .string (itoaB n)] 9)) (some ⟨w.heap.size, 0, none⟩) 2 (padPath n) := strs_pad w n hs
theorem own_len {w : World} {base : Nat} {v : Value} {E : List EntV} {n : Nat} (h : Own w base v E) (hn : E.length = n) : w.ownsRow base 60 3 v n (rowOf E) := hn ▸ h.row
theorem own_next {w w' : World} {base : Nat} {v v' : Value} {E : List EntV} {n : Nat} (h : Own w base v E) (hn : E.length = n) (e : EntV) {cs : List Value} (hc : cs = e.cells) (hr : w'.ownsRow base 60 3 v' (n + 1) (rowOf E ++ cs)) (hg : w.grownBy w' v.ownBlock)
    (hl : v'.ownBlock = v.ownBlock ∨ v'.ownBlock = some w.heap.size) (hs : StrsAt w e.pa e.pc e.f.path) (hb : -9223372036854775808 ≤ e.f.len ∧ e.f.len ≤ 9223372036854775807) (hf : e.f.path = [] ∨ ∃ a, e.pa = some a ∧ some a.block ≠ v.ownBlock ∧ a.block < w.heap.size) : Own w' base v' (E ++ [e]) := by
  subst hn hc
  exact h.add hr hg hl hs hb hf
/-- A path of the bare list lies ahead of what the loop makes. -/
theorem old_far {w1 W : World} {pa : Option Addr} {pc : Nat} {p : List ByteArray} {v : Value} (hs : StrsAt w1 pa pc p) (hw : w1.heap.size ≤ W.heap.size) (hv : ∀ k, v.ownBlock = some k → w1.heap.size ≤ k) : p = [] ∨ ∃ a, pa = some a ∧ some a.block ≠ v.ownBlock ∧ a.block < W.heap.size := by
  rcases hs.at' with h | ⟨b, o, e, hb, -⟩
  · exact .inl h
  · refine .inr ⟨_, e, fun q => ?_, Nat.lt_of_lt_of_le hb hw⟩
    have := hv b q.symm
    omega
end Go.Proofs.YtnhgichiedninaaGreatDoor

namespace Go.Proofs.YtnhgichiedninaaGreatDoor
set_option linter.unusedSimpArgs false
set_option linter.unusedVariables false

def bareL (l : List FileV) : List FileV := l.filter fun f => !f.pad
def Good (f : FileV) : Prop := namedR f = true ∧ 0 ≤ f.len ∧ f.len ≤ 65536 ∧ (f.pad = true → f.len ≠ 0)
def Apart (g f : FileV) : Prop := ¬ (f.path <+: g.path) ∧ ¬ (g.path <+: f.path)
structure Vld (l : List FileV) : Prop where
  one : 1 ≤ l.length
  most : l.length ≤ 40
  good : ∀ f ∈ l, Good f
  apart : l.Pairwise fun g f => g.pad = false → f.pad = false → Apart g f
  ends : ∀ (k : Nat) (f : FileV), l[k]? = some f → f.pad = true → k ≠ 0 ∧ k ≠ l.length - 1
  sum : sumOf l ≤ 65536

theorem err_free {pre : List FileV} {tot : Int} {i last : Nat} {f : FileV} : errR pre tot i last f = none ↔ Good f ∧ dupR pre f = false ∧ badState i last f = false ∧ tot + f.len ≤ 65536 := by
  unfold errR Good
  constructor
  · intro h
    split at h
    · cases h
    · next a =>
      split at h
      · cases h
      · next b =>
        split at h
        · cases h
        · next c =>
          split at h
          · cases h
          · next d =>
            split at h
            · cases h
            · next e =>
              simp at a b c d
              refine ⟨⟨a, by omega, by omega, fun hp => b.2 hp⟩, by simpa using c, by simpa using d, by omega⟩
  · rintro ⟨⟨a, b1, b2, b3⟩, c, d, e⟩
    have hb : (decide (f.len < 0) || decide (65536 < f.len) || (f.pad && decide (f.len = 0))) = false := by
      cases hp : f.pad with
      | true => have := b3 hp; simp; omega
      | false => simp; omega
    rw [if_neg (by simp [a]), if_neg (by simp only [hb]; simp), if_neg (by simp [c]), if_neg (by simp [d]), if_neg (by omega)]
theorem goR_free (last : Nat) : ∀ (l pre : List FileV) (i : Nat) (tot : Int), (goR last pre i tot l).2 = 0 ↔ ∀ (k : Nat) (f : FileV), l[k]? = some f → errR (pre ++ l.take k) (tot + sumOf (l.take k)) (i + k) last f = none
  | [], pre, i, tot => by simp [goR]
  | x :: r, pre, i, tot => by
    have hz : sumOf ([] : List FileV) = 0 := rfl
    cases he : errR pre tot i last x with
    | some e =>
      have h1 : goR last pre i tot (x :: r) = ((i : Int), e) := by rw [goR, he]
      rw [h1]
      have hne : e ≠ 0 := by
        rintro rfl
        unfold errR at he
        repeat' (split at he <;> try (simp at he))
      constructor
      · intro h; exact absurd h hne
      · intro h
        have := h 0 x rfl
        simp only [List.take_zero, List.append_nil, hz, Int.add_zero, Nat.add_zero] at this
        rw [he] at this
        cases this
    | none =>
      have h1 : goR last pre i tot (x :: r) = goR last (pre ++ [x]) (i + 1) (tot + x.len) r := by rw [goR, he]
      rw [h1, goR_free last r]
      constructor
      · intro h k f hf
        cases k with
        | zero =>
          simp at hf
          subst hf
          simpa only [List.take_zero, List.append_nil, hz, Int.add_zero, Nat.add_zero] using he
        | succ k =>
          have := h k f (by simpa using hf)
          simp only [List.take_succ_cons, sumOf, List.map_cons, List.sum_cons] at *
          simpa [List.append_assoc, Int.add_assoc, Nat.add_assoc, Nat.add_comm 1 k] using this
      · intro h k f hf
        have := h (k + 1) f (by simpa using hf)
        simp only [List.take_succ_cons, sumOf, List.map_cons, List.sum_cons] at *
        simpa [List.append_assoc, Int.add_assoc, Nat.add_assoc, Nat.add_comm 1 k] using this
theorem dup_free {pre : List FileV} {f : FileV} : dupR pre f = false ↔ ∀ g ∈ pre, g.pad = false → f.pad = false → Apart g f := by
  unfold dupR Apart
  rw [List.any_eq_false]
  constructor
  · intro h g hg gp fp
    have := h g hg
    simp [gp, fp] at this
    exact this
  · intro h g hg
    cases fp : f.pad <;> cases gp : g.pad <;> simp
    exact h g hg gp fp
theorem valid_iff {l : List FileV} (hf : Fits l) : validOf l = true ↔ Vld l := by
  have hv : validOf l = true ↔ (wrongR l).2 = 0 := by rw [wrong_same l hf]; simp [validOf]
  rw [hv]
  unfold wrongR
  by_cases hl : l.length = 0 ∨ 40 < l.length
  · rw [if_pos hl]
    constructor
    · intro h; simp at h
    · rintro ⟨a, b, -, -, -, -⟩; omega
  · rw [if_neg hl, goR_free]
    simp only [err_free, List.nil_append, Int.zero_add, Nat.zero_add]
    constructor
    · intro h
      have hgood : ∀ f ∈ l, Good f := fun f hf => by
        obtain ⟨k, hk⟩ := List.mem_iff_getElem?.1 hf
        exact (h k f hk).1
      refine ⟨by omega, by omega, hgood, ?_, ?_, ?_⟩
      · rw [List.pairwise_iff_getElem]
        intro i j hi hj hij gp fp
        have := (h j l[j] (List.getElem?_eq_getElem hj)).2.1
        rw [dup_free] at this
        exact this l[i] (List.mem_iff_getElem.2 ⟨i, by simp; omega, by simp⟩) gp fp
      · intro k f hk hp
        have := (h k f hk).2.2.1
        simp only [badState, hp, Bool.true_and, Bool.or_eq_false_iff, decide_eq_false_iff_not] at this
        exact this
      · have hlt : l.length - 1 < l.length := by omega
        have := (h (l.length - 1) l[l.length - 1] (List.getElem?_eq_getElem hlt)).2.2.2
        have hn := sum_next hlt
        rw [show l.length - 1 + 1 = l.length by omega, List.take_length] at hn
        omega
    · rintro ⟨a, b, c, d, e, g⟩ k f hk
      have hlt : k < l.length := (List.getElem?_eq_some_iff.1 hk).1
      have hfe : l[k] = f := (List.getElem?_eq_some_iff.1 hk).2
      refine ⟨c f (List.mem_of_getElem? hk), ?_, ?_, ?_⟩
      · rw [dup_free]
        intro x hx xp fp
        obtain ⟨i, hi, rfl⟩ := List.mem_iff_getElem.1 hx
        have hik : i < k := by simp at hi; omega
        rw [List.getElem_take] at xp ⊢
        have := (List.pairwise_iff_getElem.1 d) i k (by omega) hlt hik xp (by rw [hfe]; exact fp)
        rw [hfe] at this
        exact this
      · cases hp : f.pad with
        | false => simp [badState, hp]
        | true =>
          obtain ⟨q1, q2⟩ := e k f hk hp
          simp [badState, q1, q2]
      · have hn := sum_next hlt
        rw [hfe] at hn
        have := (sum_mono l (fun x hx => (c x hx).2.1) (k + 1)).2
        omega

theorem bare_pad {l : List FileV} : ∀ f ∈ bareL l, f.pad = false := fun f hf => by simpa using (List.mem_filter.1 hf).2
theorem bare_self {l : List FileV} (h : ∀ f ∈ l, f.pad = false) : bareL l = l := by
  unfold bareL
  rw [List.filter_eq_self]
  intro f hf
  simp [h f hf]
theorem padded_none {piece x : Int} {f : FileV} {r : List FileV} (h : ¬ (0 < f.len ∧ 0 < (-x) % piece)) : padded piece x (f :: r) = f :: padded piece (x + f.len) r := by
  rw [padded]
  exact if_neg h
theorem padded_bare (piece : Int) : ∀ (l : List FileV) (x : Int), (∀ f ∈ l, f.pad = false) → bareL (padded piece x l) = l
  | [], _, _ => rfl
  | f :: r, x, h => by
    have hf := h f (.head _)
    by_cases hp : 0 < f.len ∧ 0 < (-x) % piece
    · rw [padded_pos hp]
      have := padded_bare piece r (x + (-x) % piece + f.len) (fun g hg => h g (.tail _ hg))
      simp only [bareL, List.filter_cons, hf] at *
      simpa using this
    · rw [padded_none hp]
      have := padded_bare piece r (x + f.len) (fun g hg => h g (.tail _ hg))
      simp only [bareL, List.filter_cons, hf] at *
      simpa using this
theorem padded_mem (piece : Int) (hp : 16 ≤ piece ∧ piece ≤ 1024) : ∀ (l : List FileV) (x : Int) (f : FileV), f ∈ padded piece x l → f ∈ l ∨ ∃ n, f = ⟨padPath n, n, true⟩ ∧ 0 < n ∧ n < piece
  | [], _, f, h => by simp [padded] at h
  | g :: r, x, f, h => by
    by_cases hq : 0 < g.len ∧ 0 < (-x) % piece
    · rw [padded_pos hq] at h
      simp only [List.mem_cons] at h
      rcases h with rfl | rfl | h
      · exact .inr ⟨_, rfl, hq.2, Int.emod_lt_of_pos _ (by omega)⟩
      · exact .inl (.head _)
      · exact (padded_mem piece hp r _ f h).imp (fun a => .tail _ a) id
    · rw [padded_none hq] at h
      simp only [List.mem_cons] at h
      rcases h with rfl | h
      · exact .inl (.head _)
      · exact (padded_mem piece hp r _ f h).imp (fun a => .tail _ a) id
theorem padded_last (piece : Int) : ∀ (l : List FileV) (x : Int), (padded piece x l).getLast? = l.getLast?
  | [], _ => rfl
  | g :: r, x => by
    by_cases hq : 0 < g.len ∧ 0 < (-x) % piece
    · rw [padded_pos hq]
      have := padded_last piece r (x + (-x) % piece + g.len)
      simp only [List.getLast?_cons] at *
      rw [this]
      simp
    · rw [padded_none hq]
      have := padded_last piece r (x + g.len)
      simp only [List.getLast?_cons] at *
      rw [this]
theorem padded_first (piece : Int) (l : List FileV) : (padded piece 0 l).head? = l.head? := by
  cases l with
  | nil => rfl
  | cons f r =>
    rw [padded_none (by simp)]
    rfl
theorem bare_ne {l : List FileV} (h : Vld l) : bareL l ≠ [] := by
  intro e
  have h1 := h.one
  have hk : l[0]? = some (l[0]'(by omega)) := List.getElem?_eq_getElem (by omega)
  cases hp : (l[0]'(by omega)).pad with
  | true => exact (h.ends 0 _ hk hp).1 rfl
  | false =>
    have : l[0]'(by omega) ∈ bareL l := List.mem_filter.2 ⟨List.mem_of_getElem? hk, by simp [hp]⟩
    rw [e] at this
    simp at this
theorem bare_sum : ∀ (l : List FileV), (∀ f ∈ l, 0 ≤ f.len) → sumOf (bareL l) ≤ sumOf l
  | [], _ => by simp [bareL]
  | f :: r, h => by
    have := bare_sum r (fun g hg => h g (.tail _ hg))
    have h0 := h f (.head _)
    cases hp : f.pad <;> simp only [bareL, List.filter_cons, hp, sumOf, List.map_cons, List.sum_cons] at * <;> simp at * <;> omega
/-- What Align answers is a valid list. -/
theorem padded_valid {l : List FileV} {piece : Int} (h : Vld l) (hp : 16 ≤ piece ∧ piece ≤ 1024) (hl : (padded piece 0 (bareL l)).length ≤ 40) (hs : sumOf (padded piece 0 (bareL l)) ≤ 65536) : Vld (padded piece 0 (bareL l)) := by
  have hb : ∀ f ∈ bareL l, f ∈ l ∧ f.pad = false := fun f hf => ⟨(List.mem_filter.1 hf).1, by simpa using (List.mem_filter.1 hf).2⟩
  have hne := bare_ne h
  have hlast := padded_last piece (bareL l) 0
  have hfirst := padded_first piece (bareL l)
  have hne2 : padded piece 0 (bareL l) ≠ [] := by
    intro e
    rw [e] at hfirst
    cases hq : bareL l with
    | nil => exact hne hq
    | cons x r => rw [hq] at hfirst; simp at hfirst
  refine ⟨by have := List.length_pos_iff.2 hne2; omega, hl, fun f hf => ?_, ?_, fun k f hk hpad => ?_, hs⟩
  · rcases padded_mem piece hp _ _ f hf with hf | ⟨n, rfl, n0, n1⟩
    · exact h.good f (hb f hf).1
    · exact ⟨by simp [namedR], by show 0 ≤ n; omega, by show n ≤ 65536; omega, fun _ => by show n ≠ 0; omega⟩
  · have h1 : (bareL (padded piece 0 (bareL l))).Pairwise Apart := by
      rw [padded_bare piece _ 0 (fun f hf => (hb f hf).2)]
      unfold bareL
      rw [List.pairwise_filter]
      exact h.apart.imp (fun q a b => q (by simpa using a) (by simpa using b))
    unfold bareL at h1
    rw [List.pairwise_filter] at h1
    exact h1.imp (fun q a b => q (by simpa using a) (by simpa using b))
  · refine ⟨fun e => ?_, fun e => ?_⟩
    · subst e
      rw [List.head?_eq_getElem?] at hfirst
      rw [hk] at hfirst
      have := List.mem_of_mem_head? (hfirst.symm : (bareL l).head? = some f)
      rw [(hb f this).2] at hpad
      cases hpad
    · rw [List.getLast?_eq_getElem?] at hlast
      rw [← e, hk] at hlast
      have := List.mem_of_mem_getLast? (hlast.symm : (bareL l).getLast? = some f)
      rw [(hb f this).2] at hpad
      cases hpad
end Go.Proofs.YtnhgichiedninaaGreatDoor
