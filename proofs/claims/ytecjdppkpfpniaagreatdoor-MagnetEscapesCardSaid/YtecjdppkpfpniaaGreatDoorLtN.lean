/-
  Numbers: what is written in decimal digits is read back. Plain Lean, no program. No condition.
-/
import Derived.Test.YtecjdppkpfpniaaGreatDoorModel5
import Derived.Lib.AtoiAll
namespace Go.Proofs.YtecjdppkpfpniaaGreatDoor
set_option linter.unusedSimpArgs false
set_option linter.unusedVariables false

def digL (b : UInt8) : Bool := decide (48 ≤ b.toNat) && decide (b.toNat ≤ 57)
def decF (a : Nat) (ds : List UInt8) : Nat := ds.foldl (fun a c => a * 10 + (c.toNat - 48)) a
theorem decF_ge : ∀ (ds : List UInt8) (a : Nat), a ≤ decF a ds
  | [], a => Nat.le_refl _
  | c :: r, a => by
    have := decF_ge r (a * 10 + (c.toNat - 48))
    simp only [decF, List.foldl_cons] at *
    omega
theorem decF_cons (c : UInt8) (r : List UInt8) (a : Nat) : decF a (c :: r) = decF (a * 10 + (c.toNat - 48)) r := by simp only [decF, List.foldl_cons]
theorem parse10L (ds : List UInt8) : ∀ (a : Nat), ds.all digL = true → a < 18446744073709551616 → Lib.parseUint10 a ds = if decF a ds < 18446744073709551616 then .ok (decF a ds) else .range := by
  induction ds with
  | nil =>
    intro a _ ha
    have e : decF a [] = a := by simp only [decF, List.foldl_nil]
    rw [e, if_pos ha]
    simp only [Lib.parseUint10]
  | cons c r ih =>
    intro a h ha
    rw [List.all_cons, Bool.and_eq_true] at h
    obtain ⟨h1, h3⟩ := h
    simp only [digL, Bool.and_eq_true, decide_eq_true_eq] at h1
    have hge := decF_ge r (a * 10 + (c.toNat - 48))
    simp only [Lib.parseUint10]
    rw [if_pos h1, decF_cons]
    obtain ⟨v, hv⟩ : ∃ v, v = decF (a * 10 + (c.toNat - 48)) r := ⟨_, rfl⟩
    have ih := ih (a * 10 + (c.toNat - 48)) h3
    rw [← hv] at ih hge ⊢
    by_cases b1 : 1844674407370955162 ≤ a
    · rw [if_pos b1, if_neg (by omega)]
    · rw [if_neg b1]
      by_cases b2 : 18446744073709551616 ≤ a * 10 + (c.toNat - 48)
      · rw [if_pos b2, if_neg (by omega)]
      · rw [if_neg b2]
        exact ih (by omega)
theorem atoi_digL {ds : List UInt8} (h : ds.all digL = true) (hne : ds ≠ []) : Lib.atoiAll ds = if decF 0 ds ≤ 9223372036854775807 then .ok (decF 0 ds) else .range := by
  cases ds with
  | nil => exact absurd rfl hne
  | cons c r =>
    have h0 := h
    simp only [List.all_cons, Bool.and_eq_true, digL, decide_eq_true_eq] at h
    obtain ⟨⟨h1, h2⟩, h3⟩ := h
    have hp : Lib.parseMag (c :: r) = if decF 0 (c :: r) < 18446744073709551616 then .ok (decF 0 (c :: r)) else .range := by
      rw [Lib.parseMag, if_neg (by simp)]
      exact parse10L _ 0 h0 (by omega)
    simp only [Lib.atoiAll]
    rw [if_neg (show ¬ (c.toNat = 43 ∨ c.toNat = 45) by omega), hp]
    by_cases b1 : decF 0 (c :: r) < 18446744073709551616
    · rw [if_pos b1]
      simp only
      by_cases b2 : decF 0 (c :: r) ≤ 9223372036854775807
      · rw [if_pos b2, if_neg (by omega), if_neg (by omega), if_neg (by omega)]
      · rw [if_neg b2, if_pos (by omega)]
    · rw [if_neg b1, if_neg (by omega)]
theorem decF_snoc (ds : List UInt8) (d : UInt8) : decF 0 (ds ++ [d]) = decF 0 ds * 10 + (d.toNat - 48) := by simp [decF]
theorem digL_mk {u : Nat} (h : u < 10) : digL (UInt8.ofNat (48 + u)) = true ∧ (UInt8.ofNat (48 + u)).toNat - 48 = u := by
  have e : (UInt8.ofNat (48 + u)).toNat = 48 + u := by
    rw [UInt8.toNat_ofNat']
    omega
  constructor
  · simp [digL, e]
    omega
  · omega
theorem dec_readL (u : Nat) : decF 0 (Lib.decDigits u) = u ∧ (Lib.decDigits u).all digL = true ∧ Lib.decDigits u ≠ [] := by
  induction u using Nat.strongRecOn with
  | ind u ih =>
    by_cases h : u < 10
    · obtain ⟨i1, i2⟩ := digL_mk h
      rw [Lib.decDigits_one h]
      refine ⟨by show 0 * 10 + ((UInt8.ofNat (48 + u)).toNat - 48) = u; omega, by rw [List.all_cons, List.all_nil, i1]; rfl, by simp⟩
    · obtain ⟨a1, a2, a3⟩ := ih (u / 10) (by omega)
      obtain ⟨i1, i2⟩ := digL_mk (show u % 10 < 10 by omega)
      rw [Lib.decDigits, dif_neg h]
      exact ⟨by rw [decF_snoc, a1, i2]; omega, by rw [List.all_append, a2, List.all_cons, List.all_nil, i1]; rfl, by simp⟩
theorem atoi_itoaL {n : Int} (h0 : 0 ≤ n) (h1 : n ≤ 200000) : Lib.atoiAll (Lib.itoa n) = .ok n := by
  obtain ⟨u, rfl⟩ := Int.eq_ofNat_of_zero_le h0
  obtain ⟨d1, d2, d3⟩ := dec_readL u
  rw [Lib.itoa_nonneg, atoi_digL d2 d3, d1, if_pos (by omega)]
theorem itoa_bytesL {n : Int} (h0 : 0 ≤ n) {c : UInt8} (h : c ∈ Lib.itoa n) : 48 ≤ c.toNat ∧ c.toNat ≤ 57 := by
  obtain ⟨u, rfl⟩ := Int.eq_ofNat_of_zero_le h0
  obtain ⟨d1, d2, d3⟩ := dec_readL u
  rw [Lib.itoa_nonneg] at h
  have := List.all_eq_true.1 d2 c h
  simpa [digL] using this
theorem itoa_short {n : Int} (h0 : 1 ≤ n) (h1 : n ≤ 65535) : (Lib.itoa n).length ≤ 21 := Lib.itoa_length_le n (by omega) (by omega)
/-- Atoi's number of whatever text. -/
def atoiV (l : List UInt8) : Int := match Lib.atoiAll l with
  | .ok v => v
  | .range => Lib.atoiSat l
  | _ => 0
end Go.Proofs.YtecjdppkpfpniaaGreatDoor
