/-
  The walks of Nibble and FromHex of the reference. Condition: the text is no longer than the bound.
-/
import Derived.Test.YtecjdppkpfpniaaGreatDoorFx
namespace Go.Proofs.YtecjdppkpfpniaaGreatDoor
set_option linter.unusedSimpArgs false
set_option linter.unusedVariables false
open Go.RowKit

theorem low_of (c : UInt8) (h : ∀ j, j < 16 → hexLow j ≠ c) : nib c = none := by
  cases hn : nib c with
  | none => rfl
  | some n =>
    obtain ⟨h1, h2⟩ := low_nib hn
    exact absurd h1 (h n h2)
set_option maxRecDepth 100000 in
set_option maxHeartbeats 1000000 in
theorem nibble_any (c : UInt8) (w : World) : Calls Tryz.prog 184 #[.int .u8 (c.toNat : Int)] w fun e w' => e = .returned (.int .i64 (nibI c)) ∧ w = w' := by
  obtain ⟨X, hX⟩ : ∃ X, X = nibI c := ⟨_, rfl⟩
  rw [← hX]
  have HX := hid hX
  clear hX
  go_enter Tryz.func184, Tryz.ntmps184
  go_wp2
  go_loopw [4] (fun i wr => ∃ k : Nat, i = .int .i64 k ∧ k ≤ 16 ∧ (∀ j, j < k → hexLow j ≠ c) ∧ wr = w) (fun i _ => 16 - (intOf i).toNat)
  case atStart => exact ⟨0, rfl, by omega, by omega, rfl⟩
  case round =>
    obtain ⟨k, rfl, hk, hb, rfl⟩ := hrel
    have HB := hid hb
    clear hb
    by_cases hlt : k < 16
    · have cK := lit_at hlt
      unfold hexLit at cK
      have kI : (k : Int) < 16 := by omega
      by_cases he : hexLow k = c
      · have hbI : (((hexLow k).toNat : Int) == (c.toNat : Int)) = true := by rw [he]; simp
        have HR := hid (show nibI c = (k : Int) from nibI_some (by rw [← he]; exact nib_low k hlt))
        clear he
        go_wp2
        go_ret
        exact ⟨ret_int (by rw [HX.out, HR.out]), rfl⟩
      · have hbI : (((hexLow k).toNat : Int) == (c.toNat : Int)) = false := by
          rw [beq_eq_false_iff_ne]
          exact fun q => he (UInt8.toNat_inj.1 (by omega))
        have HE := hid he
        clear he
        go_wp2
        exact ⟨⟨k + 1, by simp, by omega, fun j hj => by rcases Nat.lt_succ_iff_lt_or_eq.1 hj with h | h; exact HB.out j h; subst h; exact HE.out, trivial⟩, by simp [intOf]; omega⟩
    · have HR := hid (show nibI c = -1 from nibI_none (low_of c (fun j hj => HB.out j (by omega))))
      go_wp2
      go_ret
      exact ⟨ret_int (by rw [HX.out, HR.out]), rfl⟩
end Go.Proofs.YtecjdppkpfpniaaGreatDoor
