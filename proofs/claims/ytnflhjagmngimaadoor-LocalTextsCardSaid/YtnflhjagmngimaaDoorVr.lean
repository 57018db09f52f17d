/-
  The walks of Valid and Format of the reference. Conditions: the message lies as told; the library's table is laid.
-/
import Derived.Test.YtnflhjagmngimaaDoorVl
namespace Go.Proofs.YtnflhjagmngimaaDoor
set_option linter.unusedSimpArgs false
set_option linter.unusedVariables false
open Go.RowKit

set_option maxRecDepth 100000 in
set_option maxHeartbeats 4000000 in
theorem rValid_any (m : MsgV) (a : Option Addr) (c : Nat) (w : World) (h : MsgAt w a c m) (ht : Tab w) : Calls Tryd.prog 8 #[msgV a c m] w fun e w' => e = .returned (.bool (validM m)) ∧ New w w' := by
  obtain ⟨pl, pu⟩ := h.port
  have hm1 := h.names.room; have hm2 := h.names.cap
  unfold maxLen at hm2
  have HSM := hid h.names.small
  have HCK := hid (fun W => rcookie_any m.cookie W h.cook)
  have HNM := hid (fun (s : ByteArray) (q : s.size ≤ maxLen) W => rname_any s W q)
  have HWR := hid (fun (hv : validM m = true) W (n : New w W) => text_any m a c W hv (h.names.new n) (ht.new n))
  have HWL := hid (fun (hv : validM m = true) => written_len hv)
  obtain ⟨X, hX⟩ : ∃ X, X = validM m := ⟨_, rfl⟩
  rw [← hX]
  have HX := hid hX
  clear hX
  have HVP := hid (fun q => valid_port (m := m) q)
  have HVN := hid (fun q => valid_names (m := m) q)
  have HVC := hid (fun q => valid_cook (m := m) q)
  have HVV := hid (fun (q0 : 1 ≤ m.port) (q1 : m.port ≤ 65535) (q2 : namesB m.names = true) (q3 : cookieOk m.cookie = true) => (show validM m = true from valid_of ⟨q0, q1⟩ q2 q3))
  have HB := hid (Blk.new w #[.int .i64 m.port, .slice a m.names.length c, .string m.cookie] 24)
  have HGET := hid (fun q => h.names.get q)
  obtain ⟨port, hport⟩ : ∃ p, p = m.port := ⟨_, rfl⟩
  rw [← hport] at HVP HVV pl pu HB HWR
  clear h ht
  unfold msgV
  rw [← hport]
  clear hport
  by_cases p1 : port < 1
  · have HF := hid (HVP.out (by omega))
    go_enter Tryd.func8, Tryd.ntmps8
    go_wp2
    go_ret
    exact ⟨ret_bool (by rw [HX.out, HF.out]), (Mod.refl _ _).alloc _⟩
  by_cases p2 : 65535 < port
  · have HF := hid (HVP.out (by omega))
    go_enter Tryd.func8, Tryd.ntmps8
    go_wp2
    go_ret
    exact ⟨ret_bool (by rw [HX.out, HF.out]), (Mod.refl _ _).alloc _⟩
  by_cases n0 : m.names.length < 1
  · have HF := hid (HVN.out (by unfold namesB; rw [decide_eq_false (show ¬ 1 ≤ m.names.length by omega), Bool.and_false, Bool.false_and]))
    have n0I : (m.names.length : Int) < 1 := by omega
    go_enter Tryd.func8, Tryd.ntmps8
    go_wp2
    go_ret
    exact ⟨ret_bool (by rw [HX.out, HF.out]), (Mod.refl _ _).alloc _⟩
  by_cases n1 : 20 < m.names.length
  · have HF := hid (HVN.out (by unfold namesB; rw [decide_eq_false (show ¬ m.names.length ≤ 20 by omega), Bool.and_false]))
    have n0I : ¬ (m.names.length : Int) < 1 := by omega
    have n1I : (20 : Int) < (m.names.length : Int) := by omega
    go_enter Tryd.func8, Tryd.ntmps8
    go_wp2
    go_ret
    exact ⟨ret_bool (by rw [HX.out, HF.out]), (Mod.refl _ _).alloc _⟩
  have n0I : ¬ (m.names.length : Int) < 1 := by omega
  have n1I : ¬ (20 : Int) < (m.names.length : Int) := by omega
  cases hc : cookieOk m.cookie with
  | false =>
    rw [hc] at HCK
    have HF := hid (HVC.out hc)
    clear hc
    go_enter Tryd.func8, Tryd.ntmps8
    go_wp2_with (go_at_call 16; refine (HCK.out _).mono ?_; rintro e w3 ⟨rfl, rfl⟩)
    go_ret
    exact ⟨ret_bool (by rw [HX.out, HF.out]), (Mod.refl _ _).alloc _⟩
  | true =>
    rw [hc] at HCK
    have HCT := hid hc
    clear hc
    obtain ⟨L, hL⟩ : ∃ L, L = m.names := ⟨_, rfl⟩
    rw [← hL] at HSM HVN HVV HGET n0 n1 n0I n1I hm1 HB HWR
    rw [← hL]
    obtain ⟨b1, o1, rfl, hb1, hc1⟩ := HGET.out (by omega)
    have HC1 := hid hc1
    have HNG := hid (fun q => nm_good (l := L) q)
    have HLL := hid hL
    clear hc1 hL
    go_enter Tryd.func8, Tryd.ntmps8
    go_wp2_with (go_at_call 16; refine (HCK.out _).mono ?_; rintro e w3 ⟨rfl, rfl⟩)
    have HN0 := hid ((Mod.refl _ w).alloc (.cells #[.int .i64 port, .slice (some ⟨b1, o1, none⟩) L.length c, .string m.cookie] 24) : New w _)
    go_loopw [34] (fun i wr => ∃ k : Nat, i = .int .i64 k ∧ k ≤ L.length ∧ (∀ j, j < k → nameAt L j = true) ∧ wr = w.alloc (.cells #[.int .i64 port, .slice (some ⟨b1, o1, none⟩) L.length c, .string m.cookie] 24)) (fun i _ => L.length - (intOf i).toNat)
    case atStart => exact ⟨0, rfl, by omega, by omega, rfl⟩
    case round =>
      obtain ⟨k, rfl, hk, hb, rfl⟩ := hrel
      have HNB := hid hb
      clear hb
      have d0 := HB.out.cellv 0 rfl; have d1 := HB.out.cellv 1 rfl; have d2 := HB.out.cellv 2 rfl; have d3 := HB.out.lt
      by_cases hlt : k < L.length
      · have hltI : (k : Int) < (L.length : Int) := by omega
        have hcc := HN0.out.cellv (HC1.out k hlt)
        have hsz0 := HSM.out L[k] (List.getElem_mem _)
        by_cases hsz : L[k].size = 20
        · have hne : decide (L[k].size = 20) = true := decide_eq_true hsz
          rcases Nat.eq_zero_or_pos k with h0 | h0
          · subst h0
            rw [Nat.add_zero] at hcc
            have HE := hid (show nameAt L 0 = true by rw [nameAt_zero hlt]; simpa using hsz)
            have hnm := HNM.out L[0] hsz0
            rw [hne] at hnm
            have HNM0 := hid hnm
            clear hsz hnm hne
            go_wp2_with (go_at_call 17; refine (HNM0.out _).mono ?_; rintro e w2 ⟨rfl, rfl⟩)
            exact ⟨⟨1, by simp, by omega, fun j hj => by (obtain rfl : j = 0 := by omega); exact HE.out, trivial⟩, by simp [intOf]; omega⟩
          · obtain ⟨i, rfl⟩ : ∃ i, k = i + 1 := ⟨k - 1, by omega⟩
            have hp := HN0.out.cellv (HC1.out i (by omega))
            have hpi : ((i + 1 : Nat) : Int) - 1 = (i : Int) := by omega
            have h0I : (0 : Int) < ((i + 1 : Nat) : Int) := by omega
            have HNA := hid (nameAt_succ hlt)
            have hnm := HNM.out L[i + 1] hsz0
            rw [hne] at hnm
            have HNM0 := hid hnm
            obtain ⟨S, hS⟩ : ∃ S, S = L[i + 1] := ⟨_, rfl⟩
            obtain ⟨R, hR⟩ : ∃ R, R = L[i] := ⟨_, rfl⟩
            rw [← hS, ← hR] at HNA
            rw [← hS] at hcc hsz hsz0 HNM0
            rw [← hR] at hp
            clear hS hR hnm hne
            cases hbl : Op.bytesLess R.toList S.toList with
            | true =>
              have HE := hid (show nameAt L (i + 1) = true by rw [HNA.out, hbl]; simpa using hsz)
              clear hsz
              go_wp2_with (go_at_call 17; refine (HNM0.out _).mono ?_; rintro e w2 ⟨rfl, rfl⟩)
              exact ⟨⟨i + 2, by simp; omega, by omega, fun j hj => by rcases Nat.lt_succ_iff_lt_or_eq.1 hj with h | h; exact HNB.out j h; subst h; exact HE.out, trivial⟩, by simp [intOf]; omega⟩
            | false =>
              have HF := hid (HVN.out (nm_bad hlt (by rw [HNA.out, hbl, Bool.and_false])))
              clear hsz
              go_wp2_with (go_at_call 17; refine (HNM0.out _).mono ?_; rintro e w2 ⟨rfl, rfl⟩)
              go_ret
              exact ⟨ret_bool (by rw [HX.out, HF.out]), HN0.out⟩
        · have hne : decide (L[k].size = 20) = false := decide_eq_false hsz
          have hbad : nameAt L k = false := by
            unfold nameAt
            rw [List.getElem?_eq_getElem hlt]
            simp only [decide_eq_false hsz, Bool.false_and]
          have HF := hid (HVN.out (nm_bad hlt hbad))
          have hnm := HNM.out L[k] hsz0
          rw [hne] at hnm
          have HNM0 := hid hnm
          clear hsz hbad hnm hne
          go_wp2_with (go_at_call 17; refine (HNM0.out _).mono ?_; rintro e w2 ⟨rfl, rfl⟩)
          go_ret
          exact ⟨ret_bool (by rw [HX.out, HF.out]), HN0.out⟩
      · have hnt : namesB L = true := by
          rw [HNG.out (fun j hj => HNB.out j (by omega))]
          simp only [Bool.and_eq_true, decide_eq_true_eq]
          omega
        have hvt := HVV.out (by omega) (by omega) hnt HCT.out
        have HT := hid hvt
        have hsz : (mkB (writtenL m)).size ≤ 1400 := by rw [mkB_size]; exact HWL.out hvt
        have hszI : ((mkB (writtenL m)).size : Int) ≤ 1400 := by omega
        have HW2 := hid (HWR.out hvt _ HN0.out)
        clear hnt hvt
        go_wp2_with (go_at_call 13; refine HW2.out.mono ?_; rintro e w4 ⟨rfl, n4⟩; have N4 := hid n4; clear n4)
        go_ret
        exact ⟨ret_bool (by rw [HX.out, HT.out]), HN0.out.trans N4.out⟩
set_option maxRecDepth 100000 in
set_option maxHeartbeats 4000000 in
theorem rFormat_any (m : MsgV) (a : Option Addr) (c : Nat) (w : World) (h : MsgAt w a c m) (ht : Tab w) : Calls Tryd.prog 6 #[msgV a c m] w fun e w' => e = .returned (.tuple #[.string (fmtB m), .int .i64 (fmtE m)]) ∧ New w w' := by
  have HV := hid (fun W (n : New w W) => rValid_any m a c W (h.new n) (ht.new n))
  have HWR := hid (fun (hv : validM m = true) W (n : New w W) => text_any m a c W hv (h.names.new n) (ht.new n))
  have HB := hid (Blk.new w #[.int .i64 m.port, .slice a m.names.length c, .string m.cookie] 24)
  clear h ht
  cases hv : validM m with
  | true =>
    rw [hv] at HV
    have HWR := hid (HWR.out hv)
    have HR := hid (show fmtB m = mkB (writtenL m) ∧ fmtE m = 0 by unfold fmtB fmtE; rw [hv]; exact ⟨rfl, rfl⟩)
    clear hv
    go_enter Tryd.func6, Tryd.ntmps6
    go_wp2_with fail
    refine (HV.out _ ((Mod.refl _ _).alloc _)).mono ?_
    rintro e w1 ⟨rfl, n1⟩
    have N1 := hid (((Mod.refl _ w).alloc (.cells #[.int .i64 m.port, .slice a m.names.length c, .string m.cookie] 24)).trans n1 : New w w1)
    have B1 := hid (n1.blk HB.out)
    clear n1
    have d0 := B1.out.cellv 0 rfl; have d1 := B1.out.cellv 1 rfl; have d2 := B1.out.cellv 2 rfl; have d3 := B1.out.lt
    go_wp2_with fail
    refine (HWR.out _ N1.out).mono ?_
    rintro e w2 ⟨rfl, n2⟩
    have N2 := hid (N1.out.trans n2)
    clear n2
    go_wp2
    go_ret2
    exact ⟨ret_fmt HR.out.1.symm HR.out.2.symm, N2.out⟩
  | false =>
    rw [hv] at HV
    have HR := hid (show fmtB m = ⟨#[]⟩ ∧ fmtE m = 1 by unfold fmtB fmtE; rw [hv]; exact ⟨rfl, rfl⟩)
    clear hv
    go_enter Tryd.func6, Tryd.ntmps6
    go_wp2_with fail
    refine (HV.out _ ((Mod.refl _ _).alloc _)).mono ?_
    rintro e w1 ⟨rfl, n1⟩
    have N1 := hid (((Mod.refl _ w).alloc (.cells #[.int .i64 m.port, .slice a m.names.length c, .string m.cookie] 24)).trans n1 : New w w1)
    clear n1
    go_wp2
    go_ret2
    exact ⟨ret_fmt HR.out.1.symm HR.out.2.symm, N1.out⟩
end Go.Proofs.YtnflhjagmngimaaDoor
