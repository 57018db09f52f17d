/-
  The walk of Decimal (the reference): the decimal text of a number. Condition: an int.
-/
import Derived.Test.YtnhgichiedninaaDoorMem5
import Derived.Laws.BytesArg
namespace Go.Proofs.YtnhgichiedninaaDoor
set_option linter.unusedSimpArgs false
set_option linter.unusedVariables false
open Go.RowKit

theorem itoa_one {m : Nat} (h : m < 10) : itoaB (m : Int) = ⟨#[UInt8.ofNat (48 + m)]⟩ := by
  unfold itoaB Lib.itoa
  rw [if_neg (by omega), Lib.decDigits, dif_pos (by simpa using h)]
  simp
theorem itoa_more {m : Nat} (h : ¬ m < 10) : itoaB (m : Int) = itoaB ((m / 10 : Nat) : Int) ++ ⟨#[UInt8.ofNat (48 + m % 10)]⟩ := by
  apply bytes_ext
  unfold itoaB Lib.itoa
  rw [if_neg (by omega), Lib.decDigits, dif_neg (by simpa using h), if_neg (by omega)]
  have : ((m / 10 : Nat) : Int).toNat = m / 10 := Int.toNat_natCast _
  rw [this]
  simp

theorem itoa_size {n : Int} (h0 : -9223372036854775808 ≤ n) (h1 : n ≤ 9223372036854775807) : (itoaB n).size ≤ 21 := by
  have := Lib.itoa_length_le n h0 h1
  show (Lib.itoa n).toArray.size ≤ 21
  simpa using this
theorem ret_str {a b : ByteArray} (h : a = b) : Ending.returned (.string a) = .returned (.string b) := by rw [h]
theorem one_byte (w : World) (v : Int) : (convert 59 9 (.slice (some ⟨w.heap.size, 0, none⟩) 1 1)).run Tryd.prog (w.alloc (.cells #[.int .u8 v] 5)) = .ok (.string ⟨#[UInt8.ofNat v.toNat]⟩) (w.alloc (.cells #[.int .u8 v] 5)) := by
  have := run_convert_bytes_arg (P := Tryd.prog) (w.alloc (.cells #[.int .u8 v] 5)) 59 5 Tryd.underlying59 Tryd.underlying5 w.heap.size 0 1 1 [v] rfl (fun i hi => by
    obtain rfl : i = 0 := by omega
    exact (Blk.new w #[.int .u8 v] 5).cellv 0 rfl) 9 Tryd.underlying9
  rw [this]
  rfl

set_option maxRecDepth 100000 in
set_option maxHeartbeats 1000000 in
theorem decimal_nat (m : Nat) : (m : Int) ≤ 9223372036854775807 → ∀ w : World, Calls Tryd.prog 62 #[.int .i64 m] w fun e w' => e = .returned (.string (itoaB m)) ∧ New w w' := by
  induction m using Nat.strongRecOn with
  | ind m ih =>
    intro hm w
    have hcv := one_byte w (48 + (m : Int) % 10)
    have h48 : (48 + (m : Int) % 10).toNat = 48 + m % 10 := by omega
    by_cases h : m < 10
    · have HI := hid (itoa_one h)
      have hmm : m % 10 = m := by omega
      have HM := hid (And.intro h48 hmm)
      clear ih h48 hmm
      go_enter Tryd.func62, Tryd.ntmps62
      go_wp2
      go_ret
      exact ⟨ret_str (by rw [HI.out, HM.out.2]), (Mod.refl _ _).alloc _⟩
    · have e10 : ((m / 10 : Nat) : Int) = (m : Int) / 10 := by omega
      have HI := hid (itoa_more h)
      have HM := hid h48
      have IH := hid (ih (m / 10) (by omega) (by omega))
      rw [e10] at HI IH
      have hs1 := itoa_size (n := (m : Int) / 10) (by omega) (by omega)
      have hs2 : (⟨#[48 + UInt8.ofNat (m % 10)]⟩ : ByteArray).size = 1 := rfl
      clear ih h48 e10
      go_enter Tryd.func62, Tryd.ntmps62
      go_wp2_with (go_at_call 62; refine (IH.out _).mono ?_; rintro e w1 ⟨rfl, h1⟩; have H1 := hid h1; clear h1)
      go_ret
      exact ⟨ret_str (by rw [HI.out]; simp), ((Mod.refl _ _).alloc _).trans H1.out⟩

theorem itoa_small {m : Nat} (h0 : 0 < m) (h : m < 10) : itoaB (-(m : Int)) = ⟨#[45]⟩ ++ itoaB m := by
  apply bytes_ext
  rw [show (-(m : Int)) = -((m : Nat) : Int) from rfl]
  simp [itoaB, Lib.itoa_neg m (by omega), Lib.itoa_nonneg m]
theorem itoa_great {m : Nat} (h : ¬ m < 10) : itoaB (-(m : Int)) = itoaB (-((m / 10 : Nat) : Int)) ++ itoaB ((m % 10 : Nat) : Int) := by
  apply bytes_ext
  unfold itoaB
  rw [Lib.itoa_neg m (by omega), Lib.itoa_neg (m / 10) (by omega), Lib.itoa_nonneg, Lib.decDigits, dif_neg (by simpa using h), Lib.decDigits_one (show m % 10 < 10 by omega)]
  simp

set_option maxRecDepth 100000 in
set_option maxHeartbeats 1000000 in
theorem decimal_neg (m : Nat) : 0 < m → (m : Int) ≤ 9223372036854775808 → ∀ w : World, Calls Tryd.prog 62 #[.int .i64 (-(m : Int))] w fun e w' => e = .returned (.string (itoaB (-(m : Int)))) ∧ New w w' := by
  induction m using Nat.strongRecOn with
  | ind m ih =>
    intro h0 hm w
    have hq : (-(m : Int)).tdiv 10 = -((m / 10 : Nat) : Int) := by
      rw [Int.neg_tdiv, Int.tdiv_eq_ediv_of_nonneg (by omega)]; simp
    by_cases h : m < 10
    · have HI := hid (itoa_small h0 h)
      have hz : (m : Int) / 10 = 0 := by omega
      have IH := hid (decimal_nat m (by omega))
      have hs1 := itoa_size (n := (m : Int)) (by omega) (by omega)
      clear ih hq
      go_enter Tryd.func62, Tryd.ntmps62
      go_wp2_with (go_at_call 62; refine (IH.out _).mono ?_; rintro e w1 ⟨rfl, h1⟩; have H1 := hid h1; clear h1)
      go_ret
      exact ⟨ret_str HI.out.symm, H1.out⟩
    · have e10 : ((m / 10 : Nat) : Int) = (m : Int) / 10 := by omega
      have e11 : ((m % 10 : Nat) : Int) = (m : Int) % 10 := by omega
      have HI := hid (itoa_great h)
      have hnz : (-((m : Int) / 10) == 0) = false := by simp; omega
      have hb : -922337203685477581 ≤ -((m : Int) / 10) ∧ -((m : Int) / 10) < 0 := by omega
      have IH := hid (ih (m / 10) (by omega) (by omega) (by omega))
      have IH2 := hid (decimal_nat (m % 10) (by omega))
      rw [e10] at IH HI
      rw [e11] at IH2 HI
      have hs1 := itoa_size (n := -((m : Int) / 10)) (by omega) (by omega)
      have hs2 := itoa_size (n := (m : Int) % 10) (by omega) (by omega)
      have tok : True := trivial
      clear ih hq e10 e11
      go_enter Tryd.func62, Tryd.ntmps62
      go_wp2_with (first | (go_at_call 62; have tk := tok; clear tok; refine (IH.out _).mono ?_; rintro e w1 ⟨rfl, h1⟩; have H1 := hid h1; clear h1) | (go_at_call 62; refine (IH2.out _).mono ?_; rintro e w2 ⟨rfl, h2⟩; have H2 := hid h2; clear h2))
      go_ret
      exact ⟨ret_str HI.out.symm, H1.out.trans H2.out⟩
/-- Decimal writes a number as the program does. -/
theorem decimal_any (n : Int) (h0 : -9223372036854775808 ≤ n) (h1 : n ≤ 9223372036854775807) (w : World) : Calls Tryd.prog 62 #[.int .i64 n] w fun e w' => e = .returned (.string (itoaB n)) ∧ New w w' := by
  by_cases h : 0 ≤ n
  · obtain ⟨m, rfl⟩ := Int.eq_ofNat_of_zero_le h
    exact decimal_nat m h1 w
  · obtain ⟨m, rfl⟩ : ∃ m : Nat, n = -(m : Int) := ⟨n.natAbs, by omega⟩
    exact decimal_neg m (by omega) (by omega) w
end Go.Proofs.YtnhgichiedninaaDoor
