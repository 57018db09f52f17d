/-
  Several texts in one, in their build order. The walks of cookie, of the program and of the reference. Condition: the text is no longer than an int tells. The walks of names (the program) and name (the reference). Condition: the list lies as told.
-/
import Derived.Test.YtnflhjagmngimaaGreatDoorM7
import Derived.Test.YtnflhjagmngimaaGreatDoorM3
import Derived.Test.YtnflhjagmngimaaGreatDoorM9
import Derived.Test.YtnflhjagmngimaaGreatDoorM5
namespace Go.Proofs.YtnflhjagmngimaaGreatDoor
set_option linter.unusedSimpArgs false
set_option linter.unusedVariables false
open Go.RowKit

theorem ck_bad {s : ByteArray} {k : Nat} (hk : k < s.size) (h : ¬ (33 ≤ s[k].toNat ∧ s[k].toNat ≤ 126)) : cookieOk s = false := by
  have hm : s[k] ∈ s.data.toList := by
    have : s.data.toList[k]'(by rw [Array.length_toList]; exact hk) = s[k] := rfl
    rw [← this]
    exact List.getElem_mem _
  have : s.data.toList.all (fun b => decide (33 ≤ b.toNat) && decide (b.toNat ≤ 126)) = false := by
    rw [List.all_eq_false]
    refine ⟨_, hm, ?_⟩
    simp only [Bool.and_eq_true, decide_eq_true_eq]
    exact h
  unfold cookieOk
  rw [this]
  rfl
theorem ck_good {s : ByteArray} (h : ∀ (j : Nat) (hj : j < s.size), 33 ≤ s[j].toNat ∧ s[j].toNat ≤ 126) : cookieOk s = (decide (1 ≤ s.size) && decide (s.size ≤ 30)) := by
  have : s.data.toList.all (fun b => decide (33 ≤ b.toNat) && decide (b.toNat ≤ 126)) = true := by
    rw [List.all_eq_true]
    intro c hc
    obtain ⟨j, hj, rfl⟩ := List.mem_iff_getElem.1 hc
    have hj' : j < s.size := by simpa using hj
    have := h j hj'
    simp only [Bool.and_eq_true, decide_eq_true_eq]
    exact this
  unfold cookieOk
  rw [this]
  rfl
set_option maxHeartbeats 1000000 in
theorem cookie_any (s : ByteArray) (w : World) (hs : s.size ≤ maxLen) : Calls Tryz.prog 73 #[.string s] w fun e w' => e = .returned (.bool (cookieOk s)) ∧ w = w' := by
  unfold maxLen at hs
  obtain ⟨X, hX⟩ : ∃ X, X = cookieOk s := ⟨_, rfl⟩
  rw [← hX]
  have HX := hid hX
  clear hX
  go_enter Tryz.func73, Tryz.ntmps73
  go_wp2
  go_loopw [6] (fun i wr => ∃ k : Nat, i = .int .i64 k ∧ k ≤ s.size ∧ (∀ (j : Nat) (hj : j < s.size), j < k → 33 ≤ s[j].toNat ∧ s[j].toNat ≤ 126) ∧ wr = w) (fun i _ => s.size - (intOf i).toNat)
  case atStart => exact ⟨0, rfl, by omega, by omega, rfl⟩
  case round =>
    obtain ⟨k, rfl, hk, hb, rfl⟩ := hrel
    have HB := hid hb
    clear hb
    by_cases hlt : k < s.size
    · have hltI : (k : Int) < (s.size : Int) := by omega
      by_cases h1 : s[k].toNat < 33
      · have e1 : decide ((s[k].toNat : Int) < 33) = true := by rw [decide_eq_true_eq]; omega
        have HR := hid (ck_bad hlt (by omega))
        clear h1
        go_wp2
        go_ret
        exact ⟨ret_bool (by rw [HX.out, HR.out]), rfl⟩
      · have e1 : decide ((s[k].toNat : Int) < 33) = false := by rw [decide_eq_false_iff_not]; omega
        by_cases h2 : 126 < s[k].toNat
        · have e2 : decide ((126 : Int) < (s[k].toNat : Int)) = true := by rw [decide_eq_true_eq]; omega
          have HR := hid (ck_bad hlt (by omega))
          clear h1 h2
          go_wp2
          go_ret
          exact ⟨ret_bool (by rw [HX.out, HR.out]), rfl⟩
        · have e2 : decide ((126 : Int) < (s[k].toNat : Int)) = false := by rw [decide_eq_false_iff_not]; omega
          have HE := hid (show 33 ≤ s[k].toNat ∧ s[k].toNat ≤ 126 by omega)
          clear h1 h2
          go_wp2
          exact ⟨⟨k + 1, by simp, by omega, fun j hj hjk => by rcases Nat.lt_succ_iff_lt_or_eq.1 hjk with h | h; exact HB.out j hj h; subst h; exact HE.out, trivial⟩, by simp [intOf]; omega⟩
    · have HR := hid (ck_good (s := s) (fun j hj => HB.out j hj (by omega)))
      rcases Nat.eq_zero_or_pos s.size with h0 | h0
      · have hem : s.toList.isEmpty = true := by
          rw [ByteArray.toList_eq]
          have : s.data.toList = [] := List.eq_nil_of_length_eq_zero (by rw [Array.length_toList]; exact h0)
          rw [this]
          rfl
        have hz : (s.size : Int) = 0 := by omega
        have HF := hid (show cookieOk s = false by rw [HR.out]; simp; omega)
        go_wp2
        go_ret
        exact ⟨ret_bool (by rw [HX.out, HF.out]), rfl⟩
      · have hem : s.toList.isEmpty = false := by
          rw [ByteArray.toList_eq]
          cases hq : s.data.toList with
          | nil => have : s.data.toList.length = 0 := by rw [hq]; rfl
                   rw [Array.length_toList] at this
                   exact absurd this (by show s.size ≠ 0; omega)
          | cons a r => rfl
        by_cases h30 : s.size ≤ 30
        · have e30 : (s.size : Int) ≤ 30 := by omega
          have e1 : (1 : Int) ≤ (s.size : Int) := by omega
          have HF := hid (show cookieOk s = true by rw [HR.out]; simp; omega)
          go_wp2
          go_ret
          exact ⟨ret_bool (by rw [HX.out, HF.out]), rfl⟩
        · have e30 : ¬ (s.size : Int) ≤ 30 := by omega
          have e1 : (1 : Int) ≤ (s.size : Int) := by omega
          have HF := hid (show cookieOk s = false by rw [HR.out]; simp; omega)
          go_wp2
          go_ret
          exact ⟨ret_bool (by rw [HX.out, HF.out]), rfl⟩
set_option maxHeartbeats 1000000 in
theorem rcookie_any (s : ByteArray) (w : World) (hs : s.size ≤ maxLen) : Calls Tryz.prog 80 #[.string s] w fun e w' => e = .returned (.bool (cookieOk s)) ∧ w = w' := by
  unfold maxLen at hs
  obtain ⟨X, hX⟩ : ∃ X, X = cookieOk s := ⟨_, rfl⟩
  rw [← hX]
  have HX := hid hX
  clear hX
  go_enter Tryz.func80, Tryz.ntmps80
  go_wp2
  go_loopw [6] (fun i wr => ∃ k : Nat, i = .int .i64 k ∧ k ≤ s.size ∧ (∀ (j : Nat) (hj : j < s.size), j < k → 33 ≤ s[j].toNat ∧ s[j].toNat ≤ 126) ∧ wr = w) (fun i _ => s.size - (intOf i).toNat)
  case atStart => exact ⟨0, rfl, by omega, by omega, rfl⟩
  case round =>
    obtain ⟨k, rfl, hk, hb, rfl⟩ := hrel
    have HB := hid hb
    clear hb
    by_cases hlt : k < s.size
    · have hltI : (k : Int) < (s.size : Int) := by omega
      by_cases h1 : s[k].toNat < 33
      · have e1 : decide ((s[k].toNat : Int) < 33) = true := by rw [decide_eq_true_eq]; omega
        have HR := hid (ck_bad hlt (by omega))
        clear h1
        go_wp2
        go_ret
        exact ⟨ret_bool (by rw [HX.out, HR.out]), rfl⟩
      · have e1 : decide ((s[k].toNat : Int) < 33) = false := by rw [decide_eq_false_iff_not]; omega
        by_cases h2 : 126 < s[k].toNat
        · have e2 : decide ((126 : Int) < (s[k].toNat : Int)) = true := by rw [decide_eq_true_eq]; omega
          have HR := hid (ck_bad hlt (by omega))
          clear h1 h2
          go_wp2
          go_ret
          exact ⟨ret_bool (by rw [HX.out, HR.out]), rfl⟩
        · have e2 : decide ((126 : Int) < (s[k].toNat : Int)) = false := by rw [decide_eq_false_iff_not]; omega
          have HE := hid (show 33 ≤ s[k].toNat ∧ s[k].toNat ≤ 126 by omega)
          clear h1 h2
          go_wp2
          exact ⟨⟨k + 1, by simp, by omega, fun j hj hjk => by rcases Nat.lt_succ_iff_lt_or_eq.1 hjk with h | h; exact HB.out j hj h; subst h; exact HE.out, trivial⟩, by simp [intOf]; omega⟩
    · have HR := hid (ck_good (s := s) (fun j hj => HB.out j hj (by omega)))
      rcases Nat.eq_zero_or_pos s.size with h0 | h0
      · have hem : s.toList.isEmpty = true := by
          rw [ByteArray.toList_eq]
          have : s.data.toList = [] := List.eq_nil_of_length_eq_zero (by rw [Array.length_toList]; exact h0)
          rw [this]
          rfl
        have hz : (s.size : Int) = 0 := by omega
        have HF := hid (show cookieOk s = false by rw [HR.out]; simp; omega)
        go_wp2
        go_ret
        exact ⟨ret_bool (by rw [HX.out, HF.out]), rfl⟩
      · have hem : s.toList.isEmpty = false := by
          rw [ByteArray.toList_eq]
          cases hq : s.data.toList with
          | nil => have : s.data.toList.length = 0 := by rw [hq]; rfl
                   rw [Array.length_toList] at this
                   exact absurd this (by show s.size ≠ 0; omega)
          | cons a r => rfl
        by_cases h30 : s.size ≤ 30
        · have e30 : (s.size : Int) ≤ 30 := by omega
          have e1 : (1 : Int) ≤ (s.size : Int) := by omega
          have HF := hid (show cookieOk s = true by rw [HR.out]; simp; omega)
          go_wp2
          go_ret
          exact ⟨ret_bool (by rw [HX.out, HF.out]), rfl⟩
        · have e30 : ¬ (s.size : Int) ≤ 30 := by omega
          have e1 : (1 : Int) ≤ (s.size : Int) := by omega
          have HF := hid (show cookieOk s = false by rw [HR.out]; simp; omega)
          go_wp2
          go_ret
          exact ⟨ret_bool (by rw [HX.out, HF.out]), rfl⟩
end Go.Proofs.YtnflhjagmngimaaGreatDoor

namespace Go.Proofs.YtnflhjagmngimaaGreatDoor
set_option linter.unusedSimpArgs false
set_option linter.unusedVariables false
open Go.RowKit

theorem nm_bad {l : List ByteArray} {k : Nat} (hk : k < l.length) (h : nameAt l k = false) : namesB l = false := by
  cases hb : namesB l with
  | false => rfl
  | true =>
    have := (namesB_iff.1 hb).1 k hk
    rw [h] at this
    cases this
theorem nm_good {l : List ByteArray} (h : ∀ k, k < l.length → nameAt l k = true) : namesB l = (decide (1 ≤ l.length) && decide (l.length ≤ 20)) := by
  rw [Bool.eq_iff_iff, namesB_iff]
  simp only [Bool.and_eq_true, decide_eq_true_eq]
  exact ⟨fun x => x.2, fun x => ⟨h, x⟩⟩
theorem nameAt_zero {l : List ByteArray} (h : 0 < l.length) : nameAt l 0 = decide (l[0].size = 20) := by
  unfold nameAt
  rw [List.getElem?_eq_getElem h]
  simp
theorem nameAt_succ {l : List ByteArray} {j : Nat} (h : j + 1 < l.length) : nameAt l (j + 1) = (decide (l[j + 1].size = 20) && Op.bytesLess l[j].toList l[j + 1].toList) := by
  unfold nameAt
  rw [List.getElem?_eq_getElem h]
  dsimp only
  rw [List.getElem?_eq_getElem (show j < l.length by omega)]
set_option maxRecDepth 100000 in
set_option maxHeartbeats 2000000 in
theorem names_any (a : Option Addr) (c : Nat) (l : List ByteArray) (w : World) (h : StrsAt w a c l) : Calls Tryz.prog 72 #[.slice a l.length c] w fun e w' => e = .returned (.bool (namesB l)) ∧ w = w' := by
  have hm1 := h.room; have hm2 := h.cap
  unfold maxLen at hm2
  have HSM := hid h.small
  obtain ⟨X, hX⟩ : ∃ X, X = namesB l := ⟨_, rfl⟩
  rw [← hX]
  have HX := hid hX
  clear hX
  by_cases hz : 0 < l.length
  · obtain ⟨b1, o1, rfl, hb1, hc1⟩ := h.get hz
    have HC1 := hid hc1
    clear h hc1
    go_enter Tryz.func72, Tryz.ntmps72
    go_wp2
    go_loopw [7] (fun i wr => ∃ k : Nat, i = .int .i64 k ∧ k ≤ l.length ∧ (∀ j, j < k → nameAt l j = true) ∧ wr = w) (fun i _ => l.length - (intOf i).toNat)
    case atStart => exact ⟨0, rfl, by omega, by omega, rfl⟩
    case round =>
      obtain ⟨k, rfl, hk, hb, rfl⟩ := hrel
      have HB := hid hb
      clear hb
      by_cases hlt : k < l.length
      · have hltI : (k : Int) < (l.length : Int) := by omega
        have hc := HC1.out k hlt
        have hsz0 := HSM.out l[k] (List.getElem_mem _)
        unfold maxLen at hsz0
        by_cases hsz : l[k].size = 20
        · have e1 : ((l[k].size : Int) != 20) = false := by rw [bne_eq_false_iff_eq]; omega
          rcases Nat.eq_zero_or_pos k with h0 | h0
          · subst h0
            rw [Nat.add_zero] at hc
            have HE := hid (show nameAt l 0 = true by rw [nameAt_zero hlt]; simpa using hsz)
            clear hsz
            go_wp2
            exact ⟨⟨1, by simp, by omega, fun j hj => by (obtain rfl : j = 0 := by omega); exact HE.out, trivial⟩, by simp [intOf]; omega⟩
          · obtain ⟨i, rfl⟩ : ∃ i, k = i + 1 := ⟨k - 1, by omega⟩
            have hp := HC1.out i (by omega)
            have hpi : ((i + 1 : Nat) : Int) - 1 = (i : Int) := by omega
            have h0I : (0 : Int) < ((i + 1 : Nat) : Int) := by omega
            have HNA := hid (nameAt_succ hlt)
            have hlt3 := less_total l[i + 1].toList l[i].toList
            obtain ⟨S, hS⟩ : ∃ S, S = l[i + 1] := ⟨_, rfl⟩
            obtain ⟨R, hR⟩ : ∃ R, R = l[i] := ⟨_, rfl⟩
            rw [← hS, ← hR] at HNA hlt3
            rw [← hS] at hc e1 hsz hsz0
            rw [← hR] at hp
            clear hS hR
            cases hbl : Op.bytesLess R.toList S.toList with
            | true =>
              rw [hbl] at hlt3
              have HE := hid (show nameAt l (i + 1) = true by rw [HNA.out, hbl]; simpa using hsz)
              clear hbl hsz
              go_wp2
              exact ⟨⟨i + 2, by simp; omega, by omega, fun j hj => by rcases Nat.lt_succ_iff_lt_or_eq.1 hj with h | h; exact HB.out j h; subst h; exact HE.out, trivial⟩, by simp [intOf]; omega⟩
            | false =>
              rw [hbl] at hlt3
              have HF := hid (show namesB l = false from nm_bad hlt (by rw [HNA.out, hbl, Bool.and_false]))
              clear hbl hsz
              go_wp2
              go_ret
              exact ⟨ret_bool (by rw [HX.out, HF.out]), rfl⟩
        · have e1 : ((l[k].size : Int) != 20) = true := by rw [bne_iff_ne]; omega
          have hbad : nameAt l k = false := by
            unfold nameAt
            rw [List.getElem?_eq_getElem hlt]
            simp only [decide_eq_false hsz, Bool.false_and]
          have HF := hid (nm_bad hlt hbad)
          rcases Nat.eq_zero_or_pos k with h0 | h0
          · subst h0
            rw [Nat.add_zero] at hc
            clear hsz hbad
            go_wp2
            go_ret
            exact ⟨ret_bool (by rw [HX.out, HF.out]), rfl⟩
          · obtain ⟨i, rfl⟩ : ∃ i, k = i + 1 := ⟨k - 1, by omega⟩
            clear hsz hbad
            go_wp2
            go_ret
            exact ⟨ret_bool (by rw [HX.out, HF.out]), rfl⟩
      · have HR := hid (nm_good (l := l) (fun j hj => HB.out j (by omega)))
        have g1 : (1 : Int) ≤ (l.length : Int) := by omega
        by_cases h20 : l.length ≤ 20
        · have e20 : (l.length : Int) ≤ 20 := by omega
          have HF := hid (show namesB l = true by rw [HR.out]; simp; omega)
          go_wp2
          go_ret
          exact ⟨ret_bool (by rw [HX.out, HF.out]), rfl⟩
        · have e20 : ¬ (l.length : Int) ≤ 20 := by omega
          have HF := hid (show namesB l = false by rw [HR.out]; simp; omega)
          go_wp2
          go_ret
          exact ⟨ret_bool (by rw [HX.out, HF.out]), rfl⟩
  · obtain rfl : l = [] := List.eq_nil_of_length_eq_zero (by omega)
    clear h
    have HF := hid (show namesB [] = false from rfl)
    go_enter Tryz.func72, Tryz.ntmps72
    go_wp2
    refine wp_loop_rounds 1 ?_
    rw [rounds_succ]
    go_wp2
    go_ret
    exact ⟨ret_bool (by rw [HX.out, HF.out]), rfl⟩
set_option maxHeartbeats 1000000 in
theorem rname_any (s : ByteArray) (w : World) (hs : s.size ≤ maxLen) : Calls Tryz.prog 55 #[.string s] w fun e w' => e = .returned (.bool (decide (s.size = 20))) ∧ w = w' := by
  unfold maxLen at hs
  by_cases h : s.size = 20
  · have e1 : ((s.size : Int) == 20) = true := by rw [beq_iff_eq]; omega
    rw [decide_eq_true h]
    clear h
    go_enter Tryz.func55, Tryz.ntmps55
    go_wp2
    go_ret
    exact ⟨rfl, rfl⟩
  · have e1 : ((s.size : Int) == 20) = false := by rw [beq_eq_false_iff_ne]; omega
    rw [decide_eq_false h]
    clear h
    go_enter Tryz.func55, Tryz.ntmps55
    go_wp2
    go_ret
    exact ⟨rfl, rfl⟩
end Go.Proofs.YtnflhjagmngimaaGreatDoor
