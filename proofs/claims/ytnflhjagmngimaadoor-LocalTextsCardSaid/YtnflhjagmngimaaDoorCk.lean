/-
  The walks of cookie, of the program and of the reference. Condition: the text is no longer than an int tells.
-/
import Derived.Test.YtnflhjagmngimaaDoorLtM
import Derived.Test.YtnflhjagmngimaaDoorBytes
namespace Go.Proofs.YtnflhjagmngimaaDoor
set_option linter.unusedSimpArgs false
set_option linter.unusedVariables false
open Go.RowKit

theorem ck_bad {s : ByteArray} {k : Nat} (hk : k < s.size) (h : ¬ (33 ≤ s[k].toNat ∧ s[k].toNat ≤ 126)) : cookieOk s = false := by
  have hm : s[k] ∈ s.data.toList := by
    have : s.data.toList[k]'(by rw [Array.length_toList]; exact hk) = s[k] := rfl
    rw [← this]
    exact List.getElem_mem _
  have : s.data.toList.all (fun b => decide (33 ≤ b.toNat) && decide (b.toNat ≤ 126)) = false := by
    rw [List.all_eq_false]
    refine ⟨_, hm, ?_⟩
    simp only [Bool.and_eq_true, decide_eq_true_eq]
    exact h
  unfold cookieOk
  rw [this]
  rfl
theorem ck_good {s : ByteArray} (h : ∀ (j : Nat) (hj : j < s.size), 33 ≤ s[j].toNat ∧ s[j].toNat ≤ 126) : cookieOk s = (decide (1 ≤ s.size) && decide (s.size ≤ 30)) := by
  have : s.data.toList.all (fun b => decide (33 ≤ b.toNat) && decide (b.toNat ≤ 126)) = true := by
    rw [List.all_eq_true]
    intro c hc
    obtain ⟨j, hj, rfl⟩ := List.mem_iff_getElem.1 hc
    have hj' : j < s.size := by simpa using hj
    have := h j hj'
    simp only [Bool.and_eq_true, decide_eq_true_eq]
    exact this
  unfold cookieOk
  rw [this]
  rfl
set_option maxHeartbeats 1000000 in
theorem cookie_any (s : ByteArray) (w : World) (hs : s.size ≤ maxLen) : Calls Tryd.prog 15 #[.string s] w fun e w' => e = .returned (.bool (cookieOk s)) ∧ w = w' := by
  unfold maxLen at hs
  obtain ⟨X, hX⟩ : ∃ X, X = cookieOk s := ⟨_, rfl⟩
  rw [← hX]
  have HX := hid hX
  clear hX
  go_enter Tryd.func15, Tryd.ntmps15
  go_wp2
  go_loopw [6] (fun i wr => ∃ k : Nat, i = .int .i64 k ∧ k ≤ s.size ∧ (∀ (j : Nat) (hj : j < s.size), j < k → 33 ≤ s[j].toNat ∧ s[j].toNat ≤ 126) ∧ wr = w) (fun i _ => s.size - (intOf i).toNat)
  case atStart => exact ⟨0, rfl, by omega, by omega, rfl⟩
  case round =>
    obtain ⟨k, rfl, hk, hb, rfl⟩ := hrel
    have HB := hid hb
    clear hb
    by_cases hlt : k < s.size
    · have hltI : (k : Int) < (s.size : Int) := by omega
      by_cases h1 : s[k].toNat < 33
      · have e1 : decide ((s[k].toNat : Int) < 33) = true := by rw [decide_eq_true_eq]; omega
        have HR := hid (ck_bad hlt (by omega))
        clear h1
        go_wp2
        go_ret
        exact ⟨ret_bool (by rw [HX.out, HR.out]), rfl⟩
      · have e1 : decide ((s[k].toNat : Int) < 33) = false := by rw [decide_eq_false_iff_not]; omega
        by_cases h2 : 126 < s[k].toNat
        · have e2 : decide ((126 : Int) < (s[k].toNat : Int)) = true := by rw [decide_eq_true_eq]; omega
          have HR := hid (ck_bad hlt (by omega))
          clear h1 h2
          go_wp2
          go_ret
          exact ⟨ret_bool (by rw [HX.out, HR.out]), rfl⟩
        · have e2 : decide ((126 : Int) < (s[k].toNat : Int)) = false := by rw [decide_eq_false_iff_not]; omega
          have HE := hid (show 33 ≤ s[k].toNat ∧ s[k].toNat ≤ 126 by omega)
          clear h1 h2
          go_wp2
          exact ⟨⟨k + 1, by simp, by omega, fun j hj hjk => by rcases Nat.lt_succ_iff_lt_or_eq.1 hjk with h | h; exact HB.out j hj h; subst h; exact HE.out, trivial⟩, by simp [intOf]; omega⟩
    · have HR := hid (ck_good (s := s) (fun j hj => HB.out j hj (by omega)))
      rcases Nat.eq_zero_or_pos s.size with h0 | h0
      · have hem : s.toList.isEmpty = true := by
          rw [ByteArray.toList_eq]
          have : s.data.toList = [] := List.eq_nil_of_length_eq_zero (by rw [Array.length_toList]; exact h0)
          rw [this]
          rfl
        have hz : (s.size : Int) = 0 := by omega
        have HF := hid (show cookieOk s = false by rw [HR.out]; simp; omega)
        go_wp2
        go_ret
        exact ⟨ret_bool (by rw [HX.out, HF.out]), rfl⟩
      · have hem : s.toList.isEmpty = false := by
          rw [ByteArray.toList_eq]
          cases hq : s.data.toList with
          | nil => have : s.data.toList.length = 0 := by rw [hq]; rfl
                   rw [Array.length_toList] at this
                   exact absurd this (by show s.size ≠ 0; omega)
          | cons a r => rfl
        by_cases h30 : s.size ≤ 30
        · have e30 : (s.size : Int) ≤ 30 := by omega
          have e1 : (1 : Int) ≤ (s.size : Int) := by omega
          have HF := hid (show cookieOk s = true by rw [HR.out]; simp; omega)
          go_wp2
          go_ret
          exact ⟨ret_bool (by rw [HX.out, HF.out]), rfl⟩
        · have e30 : ¬ (s.size : Int) ≤ 30 := by omega
          have e1 : (1 : Int) ≤ (s.size : Int) := by omega
          have HF := hid (show cookieOk s = false by rw [HR.out]; simp; omega)
          go_wp2
          go_ret
          exact ⟨ret_bool (by rw [HX.out, HF.out]), rfl⟩
set_option maxHeartbeats 1000000 in
theorem rcookie_any (s : ByteArray) (w : World) (hs : s.size ≤ maxLen) : Calls Tryd.prog 16 #[.string s] w fun e w' => e = .returned (.bool (cookieOk s)) ∧ w = w' := by
  unfold maxLen at hs
  obtain ⟨X, hX⟩ : ∃ X, X = cookieOk s := ⟨_, rfl⟩
  rw [← hX]
  have HX := hid hX
  clear hX
  go_enter Tryd.func16, Tryd.ntmps16
  go_wp2
  go_loopw [6] (fun i wr => ∃ k : Nat, i = .int .i64 k ∧ k ≤ s.size ∧ (∀ (j : Nat) (hj : j < s.size), j < k → 33 ≤ s[j].toNat ∧ s[j].toNat ≤ 126) ∧ wr = w) (fun i _ => s.size - (intOf i).toNat)
  case atStart => exact ⟨0, rfl, by omega, by omega, rfl⟩
  case round =>
    obtain ⟨k, rfl, hk, hb, rfl⟩ := hrel
    have HB := hid hb
    clear hb
    by_cases hlt : k < s.size
    · have hltI : (k : Int) < (s.size : Int) := by omega
      by_cases h1 : s[k].toNat < 33
      · have e1 : decide ((s[k].toNat : Int) < 33) = true := by rw [decide_eq_true_eq]; omega
        have HR := hid (ck_bad hlt (by omega))
        clear h1
        go_wp2
        go_ret
        exact ⟨ret_bool (by rw [HX.out, HR.out]), rfl⟩
      · have e1 : decide ((s[k].toNat : Int) < 33) = false := by rw [decide_eq_false_iff_not]; omega
        by_cases h2 : 126 < s[k].toNat
        · have e2 : decide ((126 : Int) < (s[k].toNat : Int)) = true := by rw [decide_eq_true_eq]; omega
          have HR := hid (ck_bad hlt (by omega))
          clear h1 h2
          go_wp2
          go_ret
          exact ⟨ret_bool (by rw [HX.out, HR.out]), rfl⟩
        · have e2 : decide ((126 : Int) < (s[k].toNat : Int)) = false := by rw [decide_eq_false_iff_not]; omega
          have HE := hid (show 33 ≤ s[k].toNat ∧ s[k].toNat ≤ 126 by omega)
          clear h1 h2
          go_wp2
          exact ⟨⟨k + 1, by simp, by omega, fun j hj hjk => by rcases Nat.lt_succ_iff_lt_or_eq.1 hjk with h | h; exact HB.out j hj h; subst h; exact HE.out, trivial⟩, by simp [intOf]; omega⟩
    · have HR := hid (ck_good (s := s) (fun j hj => HB.out j hj (by omega)))
      rcases Nat.eq_zero_or_pos s.size with h0 | h0
      · have hem : s.toList.isEmpty = true := by
          rw [ByteArray.toList_eq]
          have : s.data.toList = [] := List.eq_nil_of_length_eq_zero (by rw [Array.length_toList]; exact h0)
          rw [this]
          rfl
        have hz : (s.size : Int) = 0 := by omega
        have HF := hid (show cookieOk s = false by rw [HR.out]; simp; omega)
        go_wp2
        go_ret
        exact ⟨ret_bool (by rw [HX.out, HF.out]), rfl⟩
      · have hem : s.toList.isEmpty = false := by
          rw [ByteArray.toList_eq]
          cases hq : s.data.toList with
          | nil => have : s.data.toList.length = 0 := by rw [hq]; rfl
                   rw [Array.length_toList] at this
                   exact absurd this (by show s.size ≠ 0; omega)
          | cons a r => rfl
        by_cases h30 : s.size ≤ 30
        · have e30 : (s.size : Int) ≤ 30 := by omega
          have e1 : (1 : Int) ≤ (s.size : Int) := by omega
          have HF := hid (show cookieOk s = true by rw [HR.out]; simp; omega)
          go_wp2
          go_ret
          exact ⟨ret_bool (by rw [HX.out, HF.out]), rfl⟩
        · have e30 : ¬ (s.size : Int) ≤ 30 := by omega
          have e1 : (1 : Int) ≤ (s.size : Int) := by omega
          have HF := hid (show cookieOk s = false by rw [HR.out]; simp; omega)
          go_wp2
          go_ret
          exact ⟨ret_bool (by rw [HX.out, HF.out]), rfl⟩
end Go.Proofs.YtnflhjagmngimaaDoor
