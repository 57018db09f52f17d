/-
  The walks of part (package files) and Part (the reference): whether a text is a part of a path. Condition: the text is no longer than an int tells.
-/
import Derived.Test.YtnhgichiedninaaDoorBase
import Derived.Test.YtnhgichiedninaaDoorModel5
namespace Go.Proofs.YtnhgichiedninaaDoor
set_option linter.unusedSimpArgs false
set_option linter.unusedVariables false
open Go.RowKit

theorem part_bad {s : ByteArray} {k : Nat} (hk : k < s.size) (h : badByte (s.get! k) = true) : partOk s = false := by
  have hk' : k < s.data.toList.length := by simpa using hk
  have hm : s.get! k ∈ s.data.toList := by
    have e : s.get! k = s.data.toList[k] := by
      show s.data[k]! = _
      rw [Array.getElem!_eq_getD, Array.getD_eq_getD_getElem?, Array.getElem?_eq_getElem (by simpa using hk)]
      simp
    rw [e]
    exact List.getElem_mem _
  have : s.data.toList.all (fun c => !badByte c) = false := by
    rw [List.all_eq_false]
    exact ⟨_, hm, by simp [h]⟩
  simp [partOk, this]
theorem part_good {s : ByteArray} {k : Nat} (hk : ¬ k < s.size) (h : ∀ j, j < k → badByte (s.get! j) = false) : partOk s = (decide (1 ≤ s.size) && decide (s.size ≤ 40) && !decide (s = dot) && !decide (s = dots)) := by
  have : s.data.toList.all (fun c => !badByte c) = true := by
    rw [List.all_eq_true]
    intro c hc
    obtain ⟨j, hj, rfl⟩ := List.mem_iff_getElem.1 hc
    have hj' : j < s.size := by simpa using hj
    have := h j (by omega)
    have e : s.get! j = s.data.toList[j] := by
      show s.data[j]! = _
      rw [Array.getElem!_eq_getD, Array.getD_eq_getD_getElem?, Array.getElem?_eq_getElem (by simpa using hj)]
      simp
    rw [← e, this]
    rfl
  simp [partOk, this]
theorem get_at {s : ByteArray} {k : Nat} (hk : k < s.size) : s.get! k = s[k] := by
  show s.data[k]! = _
  rw [Array.getElem!_eq_getD, Array.getD_eq_getD_getElem?, Array.getElem?_eq_getElem (by simpa using hk)]
  rfl
theorem bad_is {s : ByteArray} {k : Nat} (hk : k < s.size) : badByte (s.get! k) = (decide ((s[k].toNat : Int) < 32) || ((s[k].toNat : Int) == 127) || ((s[k].toNat : Int) == 47) || ((s[k].toNat : Int) == 92)) := by
  rw [get_at hk, badByte]
  have e : ∀ n : Nat, ((s[k].toNat : Int) == (n : Int)) = decide (s[k].toNat = n) := fun n => by
    rw [Bool.eq_iff_iff]; simp; omega
  rw [show (127 : Int) = ((127 : Nat) : Int) from rfl, show (47 : Int) = ((47 : Nat) : Int) from rfl, show (92 : Int) = ((92 : Nat) : Int) from rfl, e, e, e]
  have : decide ((s[k].toNat : Int) < 32) = decide (s[k].toNat < 32) := by rw [Bool.eq_iff_iff]; simp; omega
  rw [this]


set_option maxHeartbeats 1000000 in
theorem part_any (s : ByteArray) (w : World) (hs : s.size ≤ maxLen) :
    Calls Tryd.prog 84 #[.string s] w fun e w' => e = .returned (.bool (partOk s)) ∧ w = w' := by
  unfold maxLen at hs
  go_enter Tryd.func84, Tryd.ntmps84
  go_wp2
  go_loopw [7] (fun i wr => ∃ k : Nat, i = .int .i64 k ∧ k ≤ s.size ∧ (∀ j, j < k → badByte (s.get! j) = false) ∧ wr = w) (fun i _ => s.size - (intOf i).toNat)
  case atStart => exact ⟨0, rfl, by omega, by omega, rfl⟩
  case round =>
    obtain ⟨k, rfl, hk, hb, rfl⟩ := hrel
    have HB := hid hb
    clear hb
    by_cases hlt : k < s.size
    · have HE := hid (bad_is hlt)
      cases e1 : decide ((s[k].toNat : Int) < 32) with
      | true =>
        have HP := hid (part_bad hlt (by rw [HE.out, e1]; rfl))
        go_wp2
        go_ret
        exact ⟨ret_bool HP.out.symm, rfl⟩
      | false =>
        cases e2 : ((s[k].toNat : Int) == 127) with
        | true =>
          have HP := hid (part_bad hlt (by rw [HE.out, e1, e2]; rfl))
          go_wp2
          go_ret
          exact ⟨ret_bool HP.out.symm, rfl⟩
        | false =>
          cases e3 : ((s[k].toNat : Int) == 47) with
          | true =>
            have HP := hid (part_bad hlt (by rw [HE.out, e1, e2, e3]; rfl))
            go_wp2
            go_ret
            exact ⟨ret_bool HP.out.symm, rfl⟩
          | false =>
            cases e4 : ((s[k].toNat : Int) == 92) with
            | true =>
              have HP := hid (part_bad hlt (by rw [HE.out, e1, e2, e3, e4]; rfl))
              go_wp2
              go_ret
              exact ⟨ret_bool HP.out.symm, rfl⟩
            | false =>
              have HN := hid (show badByte (s.get! k) = false by rw [HE.out, e1, e2, e3, e4]; rfl)
              go_wp2
              exact ⟨⟨k + 1, by simp, by omega, fun j hj => by rcases Nat.lt_succ_iff_lt_or_eq.1 hj with h | h; exact HB.out j h; subst h; exact HN.out, trivial⟩, by simp [intOf]; omega⟩
    · have HP := hid (part_good hlt HB.out)
      by_cases q1 : (1 : Int) ≤ s.size
      · by_cases q2 : (s.size : Int) ≤ 40
        · have HP2 := hid (show partOk s = (!(s.toList == [46]) && !(s.toList == [46, 46])) by
            rw [HP.out, lit_eq, lit_eq, decide_eq_true (show 1 ≤ s.size by omega), decide_eq_true (show s.size ≤ 40 by omega)]
            rfl)
          cases e5 : s.toList == [46] with
          | true =>
            go_wp2
            go_ret
            exact ⟨ret_bool (by rw [HP2.out, e5]; rfl), rfl⟩
          | false =>
            go_wp2
            go_ret
            exact ⟨ret_bool (by rw [HP2.out, e5]; rfl), rfl⟩
        · go_wp2
          go_ret
          refine ⟨ret_bool ?_, rfl⟩
          rw [HP.out]
          simp; omega
      · go_wp2
        go_ret
        refine ⟨ret_bool ?_, rfl⟩
        rw [HP.out]
        simp; omega
set_option maxHeartbeats 1000000 in
theorem rPart_any (s : ByteArray) (w : World) (hs : s.size ≤ maxLen) :
    Calls Tryd.prog 63 #[.string s] w fun e w' => e = .returned (.bool (partOk s)) ∧ w = w' := by
  unfold maxLen at hs
  go_enter Tryd.func63, Tryd.ntmps63
  go_wp2
  go_loopw [6] (fun i wr => ∃ k : Nat, i = .int .i64 k ∧ k ≤ s.size ∧ (∀ j, j < k → badByte (s.get! j) = false) ∧ wr = w) (fun i _ => s.size - (intOf i).toNat)
  case atStart => exact ⟨0, rfl, by omega, by omega, rfl⟩
  case round =>
    obtain ⟨k, rfl, hk, hb, rfl⟩ := hrel
    have HB := hid hb
    clear hb
    by_cases hlt : k < s.size
    · have HE := hid (bad_is hlt)
      cases e1 : decide ((s[k].toNat : Int) < 32) with
      | true =>
        have HP := hid (part_bad hlt (by rw [HE.out, e1]; rfl))
        go_wp2
        go_ret
        exact ⟨ret_bool HP.out.symm, rfl⟩
      | false =>
        cases e2 : ((s[k].toNat : Int) == 127) with
        | true =>
          have HP := hid (part_bad hlt (by rw [HE.out, e1, e2]; rfl))
          go_wp2
          go_ret
          exact ⟨ret_bool HP.out.symm, rfl⟩
        | false =>
          cases e3 : ((s[k].toNat : Int) == 47) with
          | true =>
            have HP := hid (part_bad hlt (by rw [HE.out, e1, e2, e3]; rfl))
            go_wp2
            go_ret
            exact ⟨ret_bool HP.out.symm, rfl⟩
          | false =>
            cases e4 : ((s[k].toNat : Int) == 92) with
            | true =>
              have HP := hid (part_bad hlt (by rw [HE.out, e1, e2, e3, e4]; rfl))
              go_wp2
              go_ret
              exact ⟨ret_bool HP.out.symm, rfl⟩
            | false =>
              have HN := hid (show badByte (s.get! k) = false by rw [HE.out, e1, e2, e3, e4]; rfl)
              go_wp2
              exact ⟨⟨k + 1, by simp, by omega, fun j hj => by rcases Nat.lt_succ_iff_lt_or_eq.1 hj with h | h; exact HB.out j h; subst h; exact HN.out, trivial⟩, by simp [intOf]; omega⟩
    · have HP := hid (part_good hlt HB.out)
      by_cases q1 : (1 : Int) ≤ s.size
      · by_cases q2 : (s.size : Int) ≤ 40
        · have HP2 := hid (show partOk s = (!(s.toList == [46]) && !(s.toList == [46, 46])) by
            rw [HP.out, lit_eq, lit_eq, decide_eq_true (show 1 ≤ s.size by omega), decide_eq_true (show s.size ≤ 40 by omega)]
            rfl)
          cases e5 : s.toList == [46] with
          | true =>
            go_wp2
            go_ret
            exact ⟨ret_bool (by rw [HP2.out, e5]; rfl), rfl⟩
          | false =>
            go_wp2
            go_ret
            exact ⟨ret_bool (by rw [HP2.out, e5]; rfl), rfl⟩
        · go_wp2
          go_ret
          refine ⟨ret_bool ?_, rfl⟩
          rw [HP.out]
          simp; omega
      · go_wp2
        go_ret
        refine ⟨ret_bool ?_, rfl⟩
        rw [HP.out]
        simp; omega
end Go.Proofs.YtnhgichiedninaaDoor
