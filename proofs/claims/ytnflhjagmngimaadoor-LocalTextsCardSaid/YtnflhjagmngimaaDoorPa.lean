/-
  The walks of part (package files) and Part (the reference): whether a text is a part of a path. Condition: the text is no longer than an int tells.
-/
import Derived.Test.YtnflhjagmngimaaDoorBase
import Derived.Test.YtnflhjagmngimaaDoorModel5
namespace Go.Proofs.YtnflhjagmngimaaDoor
set_option linter.unusedSimpArgs false
set_option linter.unusedVariables false
open Go.RowKit

theorem part_bad {s : ByteArray} {k : Nat} (hk : k < s.size) (h : badByte (s.get! k) = true) : partOk s = false := by
  have hk' : k < s.data.toList.length := by simpa using hk
  have hm : s.get! k ∈ s.data.toList := by
    have e : s.get! k = s.data.toList[k] := by
      show s.data[k]! = _
      rw [Array.getElem!_eq_getD, Array.getD_eq_getD_getElem?, Array.getElem?_eq_getElem (by simpa using hk)]
      simp
    rw [e]
    exact List.getElem_mem _
  have : s.data.toList.all (fun c => !badByte c) = false := by
    rw [List.all_eq_false]
    exact ⟨_, hm, by simp [h]⟩
  simp [partOk, this]
theorem part_good {s : ByteArray} {k : Nat} (hk : ¬ k < s.size) (h : ∀ j, j < k → badByte (s.get! j) = false) : partOk s = (decide (1 ≤ s.size) && decide (s.size ≤ 40) && !decide (s = dot) && !decide (s = dots)) := by
  have : s.data.toList.all (fun c => !badByte c) = true := by
    rw [List.all_eq_true]
    intro c hc
    obtain ⟨j, hj, rfl⟩ := List.mem_iff_getElem.1 hc
    have hj' : j < s.size := by simpa using hj
    have := h j (by omega)
    have e : s.get! j = s.data.toList[j] := by
      show s.data[j]! = _
      rw [Array.getElem!_eq_getD, Array.getD_eq_getD_getElem?, Array.getElem?_eq_getElem (by simpa using hj)]
      simp
    rw [← e, this]
    rfl
  simp [partOk, this]
theorem get_at {s : ByteArray} {k : Nat} (hk : k < s.size) : s.get! k = s[k] := by
  show s.data[k]! = _
  rw [Array.getElem!_eq_getD, Array.getD_eq_getD_getElem?, Array.getElem?_eq_getElem (by simpa using hk)]
  rfl
theorem bad_is {s : ByteArray} {k : Nat} (hk : k < s.size) : badByte (s.get! k) = (decide ((s[k].toNat : Int) < 32) || ((s[k].toNat : Int) == 127) || ((s[k].toNat : Int) == 47) || ((s[k].toNat : Int) == 92)) := by
  rw [get_at hk, badByte]
  have e : ∀ n : Nat, ((s[k].toNat : Int) == (n : Int)) = decide (s[k].toNat = n) := fun n => by
    rw [Bool.eq_iff_iff]; simp; omega
  rw [show (127 : Int) = ((127 : Nat) : Int) from rfl, show (47 : Int) = ((47 : Nat) : Int) from rfl, show (92 : Int) = ((92 : Nat) : Int) from rfl, e, e, e]
  have : decide ((s[k].toNat : Int) < 32) = decide (s[k].toNat < 32) := by rw [Bool.eq_iff_iff]; simp; omega
  rw [this]


end Go.Proofs.YtnflhjagmngimaaDoor
