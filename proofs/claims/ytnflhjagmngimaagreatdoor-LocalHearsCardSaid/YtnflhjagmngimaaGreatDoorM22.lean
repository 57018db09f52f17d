/-
  Several texts in one, in their build order. The walks of Valid and Format of the reference. Conditions: the message lies as told; the library's table is laid. The walks of Nibble and FromHex of the reference. Condition: the text is no longer than the bound.
-/
import Derived.Test.YtnflhjagmngimaaGreatDoorM17
import Derived.Test.YtnflhjagmngimaaGreatDoorM15
namespace Go.Proofs.YtnflhjagmngimaaGreatDoor
set_option linter.unusedSimpArgs false
set_option linter.unusedVariables false
open Go.RowKit

set_option maxRecDepth 100000 in
set_option maxHeartbeats 4000000 in
theorem rValid_any (m : MsgV) (a : Option Addr) (c : Nat) (w : World) (h : MsgAt w a c m) (ht : Tab w) : Calls Tryz.prog 47 #[msgV a c m] w fun e w' => e = .returned (.bool (validM m)) ∧ New w w' := by
  obtain ⟨pl, pu⟩ := h.port
  have hm1 := h.names.room; have hm2 := h.names.cap
  unfold maxLen at hm2
  have HSM := hid h.names.small
  have HCK := hid (fun W => rcookie_any m.cookie W h.cook)
  have HNM := hid (fun (s : ByteArray) (q : s.size ≤ maxLen) W => rname_any s W q)
  have HWR := hid (fun (hv : validM m = true) W (n : New w W) => text_any m a c W hv (h.names.new n) (ht.new n))
  have HWL := hid (fun (hv : validM m = true) => written_len hv)
  obtain ⟨X, hX⟩ : ∃ X, X = validM m := ⟨_, rfl⟩
  rw [← hX]
  have HX := hid hX
  clear hX
  have HVP := hid (fun q => valid_port (m := m) q)
  have HVN := hid (fun q => valid_names (m := m) q)
  have HVC := hid (fun q => valid_cook (m := m) q)
  have HVV := hid (fun (q0 : 1 ≤ m.port) (q1 : m.port ≤ 65535) (q2 : namesB m.names = true) (q3 : cookieOk m.cookie = true) => (show validM m = true from valid_of ⟨q0, q1⟩ q2 q3))
  have HB := hid (Blk.new w #[.int .i64 m.port, .slice a m.names.length c, .string m.cookie] 34)
  have HGET := hid (fun q => h.names.get q)
  obtain ⟨port, hport⟩ : ∃ p, p = m.port := ⟨_, rfl⟩
  rw [← hport] at HVP HVV pl pu HB HWR
  clear h ht
  unfold msgV
  rw [← hport]
  clear hport
  by_cases p1 : port < 1
  · have HF := hid (HVP.out (by omega))
    go_enter Tryz.func47, Tryz.ntmps47
    go_wp2
    go_ret
    exact ⟨ret_bool (by rw [HX.out, HF.out]), (Mod.refl _ _).alloc _⟩
  by_cases p2 : 65535 < port
  · have HF := hid (HVP.out (by omega))
    go_enter Tryz.func47, Tryz.ntmps47
    go_wp2
    go_ret
    exact ⟨ret_bool (by rw [HX.out, HF.out]), (Mod.refl _ _).alloc _⟩
  by_cases n0 : m.names.length < 1
  · have HF := hid (HVN.out (by unfold namesB; rw [decide_eq_false (show ¬ 1 ≤ m.names.length by omega), Bool.and_false, Bool.false_and]))
    have n0I : (m.names.length : Int) < 1 := by omega
    go_enter Tryz.func47, Tryz.ntmps47
    go_wp2
    go_ret
    exact ⟨ret_bool (by rw [HX.out, HF.out]), (Mod.refl _ _).alloc _⟩
  by_cases n1 : 20 < m.names.length
  · have HF := hid (HVN.out (by unfold namesB; rw [decide_eq_false (show ¬ m.names.length ≤ 20 by omega), Bool.and_false]))
    have n0I : ¬ (m.names.length : Int) < 1 := by omega
    have n1I : (20 : Int) < (m.names.length : Int) := by omega
    go_enter Tryz.func47, Tryz.ntmps47
    go_wp2
    go_ret
    exact ⟨ret_bool (by rw [HX.out, HF.out]), (Mod.refl _ _).alloc _⟩
  have n0I : ¬ (m.names.length : Int) < 1 := by omega
  have n1I : ¬ (20 : Int) < (m.names.length : Int) := by omega
  cases hc : cookieOk m.cookie with
  | false =>
    rw [hc] at HCK
    have HF := hid (HVC.out hc)
    clear hc
    go_enter Tryz.func47, Tryz.ntmps47
    go_wp2_with (go_at_call 80; refine (HCK.out _).mono ?_; rintro e w3 ⟨rfl, rfl⟩)
    go_ret
    exact ⟨ret_bool (by rw [HX.out, HF.out]), (Mod.refl _ _).alloc _⟩
  | true =>
    rw [hc] at HCK
    have HCT := hid hc
    clear hc
    obtain ⟨L, hL⟩ : ∃ L, L = m.names := ⟨_, rfl⟩
    rw [← hL] at HSM HVN HVV HGET n0 n1 n0I n1I hm1 HB HWR
    rw [← hL]
    obtain ⟨b1, o1, rfl, hb1, hc1⟩ := HGET.out (by omega)
    have HC1 := hid hc1
    have HNG := hid (fun q => nm_good (l := L) q)
    have HLL := hid hL
    clear hc1 hL
    go_enter Tryz.func47, Tryz.ntmps47
    go_wp2_with (go_at_call 80; refine (HCK.out _).mono ?_; rintro e w3 ⟨rfl, rfl⟩)
    have HN0 := hid ((Mod.refl _ w).alloc (.cells #[.int .i64 port, .slice (some ⟨b1, o1, none⟩) L.length c, .string m.cookie] 34) : New w _)
    go_loopw [34] (fun i wr => ∃ k : Nat, i = .int .i64 k ∧ k ≤ L.length ∧ (∀ j, j < k → nameAt L j = true) ∧ wr = w.alloc (.cells #[.int .i64 port, .slice (some ⟨b1, o1, none⟩) L.length c, .string m.cookie] 34)) (fun i _ => L.length - (intOf i).toNat)
    case atStart => exact ⟨0, rfl, by omega, by omega, rfl⟩
    case round =>
      obtain ⟨k, rfl, hk, hb, rfl⟩ := hrel
      have HNB := hid hb
      clear hb
      have d0 := HB.out.cellv 0 rfl; have d1 := HB.out.cellv 1 rfl; have d2 := HB.out.cellv 2 rfl; have d3 := HB.out.lt
      by_cases hlt : k < L.length
      · have hltI : (k : Int) < (L.length : Int) := by omega
        have hcc := HN0.out.cellv (HC1.out k hlt)
        have hsz0 := HSM.out L[k] (List.getElem_mem _)
        by_cases hsz : L[k].size = 20
        · have hne : decide (L[k].size = 20) = true := decide_eq_true hsz
          rcases Nat.eq_zero_or_pos k with h0 | h0
          · subst h0
            rw [Nat.add_zero] at hcc
            have HE := hid (show nameAt L 0 = true by rw [nameAt_zero hlt]; simpa using hsz)
            have hnm := HNM.out L[0] hsz0
            rw [hne] at hnm
            have HNM0 := hid hnm
            clear hsz hnm hne
            go_wp2_with (go_at_call 55; refine (HNM0.out _).mono ?_; rintro e w2 ⟨rfl, rfl⟩)
            exact ⟨⟨1, by simp, by omega, fun j hj => by (obtain rfl : j = 0 := by omega); exact HE.out, trivial⟩, by simp [intOf]; omega⟩
          · obtain ⟨i, rfl⟩ : ∃ i, k = i + 1 := ⟨k - 1, by omega⟩
            have hp := HN0.out.cellv (HC1.out i (by omega))
            have hpi : ((i + 1 : Nat) : Int) - 1 = (i : Int) := by omega
            have h0I : (0 : Int) < ((i + 1 : Nat) : Int) := by omega
            have HNA := hid (nameAt_succ hlt)
            have hnm := HNM.out L[i + 1] hsz0
            rw [hne] at hnm
            have HNM0 := hid hnm
            obtain ⟨S, hS⟩ : ∃ S, S = L[i + 1] := ⟨_, rfl⟩
            obtain ⟨R, hR⟩ : ∃ R, R = L[i] := ⟨_, rfl⟩
            rw [← hS, ← hR] at HNA
            rw [← hS] at hcc hsz hsz0 HNM0
            rw [← hR] at hp
            clear hS hR hnm hne
            cases hbl : Op.bytesLess R.toList S.toList with
            | true =>
              have HE := hid (show nameAt L (i + 1) = true by rw [HNA.out, hbl]; simpa using hsz)
              clear hsz
              go_wp2_with (go_at_call 55; refine (HNM0.out _).mono ?_; rintro e w2 ⟨rfl, rfl⟩)
              exact ⟨⟨i + 2, by simp; omega, by omega, fun j hj => by rcases Nat.lt_succ_iff_lt_or_eq.1 hj with h | h; exact HNB.out j h; subst h; exact HE.out, trivial⟩, by simp [intOf]; omega⟩
            | false =>
              have HF := hid (HVN.out (nm_bad hlt (by rw [HNA.out, hbl, Bool.and_false])))
              clear hsz
              go_wp2_with (go_at_call 55; refine (HNM0.out _).mono ?_; rintro e w2 ⟨rfl, rfl⟩)
              go_ret
              exact ⟨ret_bool (by rw [HX.out, HF.out]), HN0.out⟩
        · have hne : decide (L[k].size = 20) = false := decide_eq_false hsz
          have hbad : nameAt L k = false := by
            unfold nameAt
            rw [List.getElem?_eq_getElem hlt]
            simp only [decide_eq_false hsz, Bool.false_and]
          have HF := hid (HVN.out (nm_bad hlt hbad))
          have hnm := HNM.out L[k] hsz0
          rw [hne] at hnm
          have HNM0 := hid hnm
          clear hsz hbad hnm hne
          go_wp2_with (go_at_call 55; refine (HNM0.out _).mono ?_; rintro e w2 ⟨rfl, rfl⟩)
          go_ret
          exact ⟨ret_bool (by rw [HX.out, HF.out]), HN0.out⟩
      · have hnt : namesB L = true := by
          rw [HNG.out (fun j hj => HNB.out j (by omega))]
          simp only [Bool.and_eq_true, decide_eq_true_eq]
          omega
        have hvt := HVV.out (by omega) (by omega) hnt HCT.out
        have HT := hid hvt
        have hsz : (mkB (writtenL m)).size ≤ 1400 := by rw [mkB_size]; exact HWL.out hvt
        have hszI : ((mkB (writtenL m)).size : Int) ≤ 1400 := by omega
        have HW2 := hid (HWR.out hvt _ HN0.out)
        clear hnt hvt
        go_wp2_with (go_at_call 48; refine HW2.out.mono ?_; rintro e w4 ⟨rfl, n4⟩; have N4 := hid n4; clear n4)
        go_ret
        exact ⟨ret_bool (by rw [HX.out, HT.out]), HN0.out.trans N4.out⟩
set_option maxRecDepth 100000 in
set_option maxHeartbeats 4000000 in
theorem rFormat_any (m : MsgV) (a : Option Addr) (c : Nat) (w : World) (h : MsgAt w a c m) (ht : Tab w) : Calls Tryz.prog 22 #[msgV a c m] w fun e w' => e = .returned (.tuple #[.string (fmtB m), .int .i64 (fmtE m)]) ∧ New w w' := by
  have HV := hid (fun W (n : New w W) => rValid_any m a c W (h.new n) (ht.new n))
  have HWR := hid (fun (hv : validM m = true) W (n : New w W) => text_any m a c W hv (h.names.new n) (ht.new n))
  have HB := hid (Blk.new w #[.int .i64 m.port, .slice a m.names.length c, .string m.cookie] 34)
  clear h ht
  cases hv : validM m with
  | true =>
    rw [hv] at HV
    have HWR := hid (HWR.out hv)
    have HR := hid (show fmtB m = mkB (writtenL m) ∧ fmtE m = 0 by unfold fmtB fmtE; rw [hv]; exact ⟨rfl, rfl⟩)
    clear hv
    go_enter Tryz.func22, Tryz.ntmps22
    go_wp2_with fail
    refine (HV.out _ ((Mod.refl _ _).alloc _)).mono ?_
    rintro e w1 ⟨rfl, n1⟩
    have N1 := hid (((Mod.refl _ w).alloc (.cells #[.int .i64 m.port, .slice a m.names.length c, .string m.cookie] 34)).trans n1 : New w w1)
    have B1 := hid (n1.blk HB.out)
    clear n1
    have d0 := B1.out.cellv 0 rfl; have d1 := B1.out.cellv 1 rfl; have d2 := B1.out.cellv 2 rfl; have d3 := B1.out.lt
    go_wp2_with fail
    refine (HWR.out _ N1.out).mono ?_
    rintro e w2 ⟨rfl, n2⟩
    have N2 := hid (N1.out.trans n2)
    clear n2
    go_wp2
    go_ret2
    exact ⟨ret_fmt HR.out.1.symm HR.out.2.symm, N2.out⟩
  | false =>
    rw [hv] at HV
    have HR := hid (show fmtB m = ⟨#[]⟩ ∧ fmtE m = 1 by unfold fmtB fmtE; rw [hv]; exact ⟨rfl, rfl⟩)
    clear hv
    go_enter Tryz.func22, Tryz.ntmps22
    go_wp2_with fail
    refine (HV.out _ ((Mod.refl _ _).alloc _)).mono ?_
    rintro e w1 ⟨rfl, n1⟩
    have N1 := hid (((Mod.refl _ w).alloc (.cells #[.int .i64 m.port, .slice a m.names.length c, .string m.cookie] 34)).trans n1 : New w w1)
    clear n1
    go_wp2
    go_ret2
    exact ⟨ret_fmt HR.out.1.symm HR.out.2.symm, N1.out⟩
end Go.Proofs.YtnflhjagmngimaaGreatDoor

namespace Go.Proofs.YtnflhjagmngimaaGreatDoor
set_option linter.unusedSimpArgs false
set_option linter.unusedVariables false
open Go.RowKit

theorem low_of (c : UInt8) (h : ∀ j, j < 16 → hexLow j ≠ c) : nib c = none := by
  cases hn : nib c with
  | none => rfl
  | some n =>
    obtain ⟨h1, h2⟩ := low_nib hn
    exact absurd h1 (h n h2)
set_option maxRecDepth 100000 in
set_option maxHeartbeats 1000000 in
theorem nibble_any (c : UInt8) (w : World) : Calls Tryz.prog 79 #[.int .u8 (c.toNat : Int)] w fun e w' => e = .returned (.int .i64 (nibI c)) ∧ w = w' := by
  obtain ⟨X, hX⟩ : ∃ X, X = nibI c := ⟨_, rfl⟩
  rw [← hX]
  have HX := hid hX
  clear hX
  go_enter Tryz.func79, Tryz.ntmps79
  go_wp2
  go_loopw [4] (fun i wr => ∃ k : Nat, i = .int .i64 k ∧ k ≤ 16 ∧ (∀ j, j < k → hexLow j ≠ c) ∧ wr = w) (fun i _ => 16 - (intOf i).toNat)
  case atStart => exact ⟨0, rfl, by omega, by omega, rfl⟩
  case round =>
    obtain ⟨k, rfl, hk, hb, rfl⟩ := hrel
    have HB := hid hb
    clear hb
    by_cases hlt : k < 16
    · have cK := lit_at hlt
      unfold hexLit at cK
      have kI : (k : Int) < 16 := by omega
      by_cases he : hexLow k = c
      · have hbI : (((hexLow k).toNat : Int) == (c.toNat : Int)) = true := by rw [he]; simp
        have HR := hid (show nibI c = (k : Int) from nibI_some (by rw [← he]; exact nib_low k hlt))
        clear he
        go_wp2
        go_ret
        exact ⟨ret_int (by rw [HX.out, HR.out]), rfl⟩
      · have hbI : (((hexLow k).toNat : Int) == (c.toNat : Int)) = false := by
          rw [beq_eq_false_iff_ne]
          exact fun q => he (UInt8.toNat_inj.1 (by omega))
        have HE := hid he
        clear he
        go_wp2
        exact ⟨⟨k + 1, by simp, by omega, fun j hj => by rcases Nat.lt_succ_iff_lt_or_eq.1 hj with h | h; exact HB.out j h; subst h; exact HE.out, trivial⟩, by simp [intOf]; omega⟩
    · have HR := hid (show nibI c = -1 from nibI_none (low_of c (fun j hj => HB.out j (by omega))))
      go_wp2
      go_ret
      exact ⟨ret_int (by rw [HX.out, HR.out]), rfl⟩
set_option maxRecDepth 100000 in
set_option maxHeartbeats 4000000 in
theorem rfromHex_any (t : ByteArray) (w : World) (hs : t.size ≤ 65536) : Calls Tryz.prog 46 #[.string t] w fun e w' => e = .returned (.tuple #[.string ⟨(unhexB t.data.toList).toArray⟩, .int .i64 (unhexE t.data.toList)]) ∧ New w w' := by
  have hlen : t.data.toList.length = t.size := by rw [Array.length_toList]; rfl
  obtain ⟨i0, hi, hz0, hz1, hz2⟩ := info_parts info_byte
  have hb1 : ¬ (65536 : Int) < (t.size : Int) := by omega
  by_cases hodd : t.size % 2 = 1
  · have HNO := hid (unhex_no (unhex_odd t.data.toList (by omega)))
    have hbI : ((t.size : Int) % 2 != 0) = true := by rw [bne_iff_ne]; omega
    clear hodd
    go_enter Tryz.func46, Tryz.ntmps46
    go_wp2
    go_ret2
    exact ⟨ret_hexE (by rw [HNO.out.1]) HNO.out.2.symm, Mod.refl _ _⟩
  obtain ⟨M, hM⟩ : ∃ M, t.size = 2 * M := ⟨t.size / 2, by omega⟩
  have hbI : ((t.size : Int) % 2 != 0) = false := by rw [bne_eq_false_iff_eq]; omega
  have hmI : (t.size : Int) / 2 = (M : Int) := by omega
  have HEV := hid (show t.data.toList.length % 2 = 0 by omega)
  have HM := hid hM
  clear hodd hM
  go_enter Tryz.func46, Tryz.ntmps46
  go_wp2_with (refine wpList_make_own _ rfl _ _ _ rfl w.heap.size 5 i0 (.int .u8 0) 1 Tryz.underlying100 hi hz0 hz1 .i64 .i64 _ M rfl rfl ?m1 ?m2 ?m3 ?m4 ?_)
  try case m1 => first | rfl | omega
  try case m2 => have := HM.out; first | omega | (rw [hz2]; omega)
  try case m3 => have := HM.out; unfold maxLen; omega
  try case m4 => exact Nat.le_refl _
  intro w1 r1 g1
  have HO1 : Hid (OwnY w1 w.heap.size (.slice (some ⟨w.heap.size, 0, none⟩) 0 M) []) := hid r1
  have HN1 : Hid (New w w1) := hid ⟨g1.os, g1.tape, g1.output, g1.size, fun k hk _ => g1.block k hk (by simp)⟩
  clear r1 g1 hmI
  go_wp2
  go_loopw [4, 5] (fun v i wr => ∃ (j : Nat) (o : Value), o = v ∧ i = .int .i64 (2 * (j : Int)) ∧ 2 * j ≤ t.size ∧ (∀ c ∈ t.data.toList.take (2 * j), (nib c).isSome = true) ∧ OwnY wr w.heap.size o (half (t.data.toList.take (2 * j))) ∧ New w wr) (fun _ i _ => t.size - (intOf i).toNat)
  case atStart => exact ⟨0, _, rfl, rfl, by omega, by simp, HO1.out, HN1.out⟩
  case round =>
    clear HO1 HN1
    obtain ⟨j, o, rfl, rfl, hk, hnb, ho, hn⟩ := hrel
    have HO := hid ho; have HN := hid hn; have HNB := hid hnb
    clear ho hn hnb
    by_cases hlt : 2 * j < t.size
    · obtain ⟨K, hK⟩ : ∃ K, K = 2 * j := ⟨_, rfl⟩
      have hKI : 2 * (j : Int) = (K : Int) := by omega
      have hlt1 : K + 1 < t.size := by have := HM.out; omega
      have hlt0 : K < t.size := by omega
      have HKE := hid (show K % 2 = 0 by omega)
      have hJM := hid (show (j : Int) + 1 ≤ 40000 ∧ 2 * (j + 1) = K + 2 by omega)
      rw [← hK] at HNB HO
      rw [hKI]
      have HKJ := hid hK
      clear hlt hk hK
      have hltI : (K : Int) < (t.size : Int) := by omega
      have hltI1 : (K : Int) + 1 < (t.size : Int) := by omega
      have kp : (0 : Int) ≤ (K : Int) := by omega
      have kp1 : (0 : Int) ≤ (K : Int) + 1 := by omega
      have kw : IntKind.i64.wrap ((K : Int) + 1) = (K : Int) + 1 := IntWalk.i64_in _ (by omega)
      have kn : ((K : Int) + 1).toNat = K + 1 := by omega
      have HNI := hid (fun c W => nibble_any c W)
      have hmem : t[K] ∈ t.data.toList := by rw [← byteAtL t hlt0]; exact List.getElem_mem _
      have hmem1 : t[K + 1] ∈ t.data.toList := by rw [← byteAtL t hlt1]; exact List.getElem_mem _
      cases hna : nib t[K] with
      | none =>
        have hx0 : decide (nibI t[K] < 0) = true := by rw [nibI_none hna]; rfl
        have HNO := hid (unhex_no (unhex_bad t.data.toList _ hmem hna))
        clear hmem hmem1 hna
        go_wp2
        go_region_held3 (fun w' => True) (trivial) ((go_at_call 79; refine (HNI.out _ _).mono ?_; rintro e w2 ⟨rfl, rfl⟩))
        all_goals go_wp2
        all_goals go_ret2
        all_goals exact ⟨ret_hexE (by rw [HNO.out.1]) HNO.out.2.symm, HN.out.drew⟩
      | some x =>
        have hxe := nibI_some hna
        have hx16 := nib_lt hna
        have hxd : nibD t[K] = x := by unfold nibD; rw [hna]; rfl
        have hx0 : decide ((x : Int) < 0) = false := by rw [decide_eq_false_iff_not]; omega
        cases hnbb : nib t[K + 1] with
        | none =>
          have hye := nibI_none hnbb
          have HNO := hid (unhex_no (unhex_bad t.data.toList _ hmem1 hnbb))
          clear hmem hmem1 hna hnbb
          go_wp2
          go_region_held3 (fun w' => True) (trivial) ((go_at_call 79; refine (HNI.out _ _).mono ?_; rintro e w2 ⟨rfl, rfl⟩))
          all_goals go_wp2
          all_goals go_ret2
          all_goals exact ⟨ret_hexE (by rw [HNO.out.1]) HNO.out.2.symm, HN.out.drew⟩
        | some y =>
          have hye := nibI_some hnbb
          have hy16 := nib_lt hnbb
          have hyd : nibD t[K + 1] = y := by unfold nibD; rw [hnbb]; rfl
          have hy0 : decide ((y : Int) < 0) = false := by rw [decide_eq_false_iff_not]; omega
          have HTK := hid (show t.data.toList.take (K + 2) = t.data.toList.take K ++ [t[K], t[K + 1]] by
            rw [show K + 2 = K + 1 + 1 from rfl, List.take_add_one, List.getElem?_eq_getElem (by omega), byteAtL t hlt1, List.take_add_one, List.getElem?_eq_getElem (by omega), byteAtL t hlt0, List.append_assoc]
            rfl)
          have HNB2 : Hid (∀ c ∈ t.data.toList.take (K + 2), (nib c).isSome = true) := hid (fun c hc => by
            rw [HTK.out] at hc
            rcases List.mem_append.1 hc with q | q
            · exact HNB.out c q
            · simp only [List.mem_cons, List.not_mem_nil, or_false] at q
              rcases q with rfl | rfl
              · rw [hna]; rfl
              · rw [hnbb]; rfl)
          have HNX := hid (show half (t.data.toList.take (K + 2)) = half (t.data.toList.take K) ++ [UInt8.ofNat (16 * x + y)] by
            rw [HTK.out, half_two _ _ _ (by have := HKE.out; rw [List.length_take]; omega), hxd, hyd])
          have HV := hid (mk_both hx16 hy16)
          have hl1 : (half (t.data.toList.take K)).length ≤ 70000 := by rw [half_len, List.length_take]; omega
          have h63 : (half (t.data.toList.take K)).length + 1 ≤ maxLen := by unfold maxLen; omega
          have hby : ((half (t.data.toList.take K)).length + 1) * 1 ≤ 140737488355328 := by omega
          clear hmem hmem1 hna hnbb hxd hyd
          go_wp2
          go_region_held3 (fun w' => True) (trivial) ((go_at_call 79; refine (HNI.out _ _).mono ?_; rintro e w2 ⟨rfl, rfl⟩))
          all_goals go_wp2_with (at_builtin; refine wpList_append_own_at _ rfl _ _ 100 rfl w.heap.size 5 i0 (.int .u8 0) 1 1 Tryz.underlying100 hi hz0 hz1 hz2 rfl (by decide) o _ _ rfl (HO.out.new (((Mod.refl _ _).drew).alloc _)) ⟨wr.heap.size, 0, none⟩ 1 1 [.int .u8 (16 * (x : Int) + (y : Int))] rfl rfl (World.news_of_block (heap_alloc_new _ _)) (by intro u hu; simp at hu; subst hu; rfl) h63 hby (by have := HN.out.size; simp; omega) ?_)
          all_goals intro o2 w2 r2 g2 _ l2
          all_goals have HO2 : Hid (OwnY w2 w.heap.size o2 (half (t.data.toList.take (K + 2)))) := hid (by
            rw [HNX.out]
            refine ownY_of _ ?_
            rw [← HV.out] at r2
            exact r2)
          all_goals have HN2' : Hid (New w w2) := hid (new_grownY (HO.out.new (((Mod.refl _ _).drew).alloc _)) (Nat.le_refl _) ((HN.out.drew).alloc _) g2)
          all_goals clear r2 g2 l2
          all_goals go_wp2
          all_goals exact ⟨⟨j + 1, _, rfl, congrArg (Value.int .i64) (by have := HKJ.out; omega), by have := HKJ.out; have := HM.out; omega, by rw [hJM.out.2]; exact HNB2.out, by rw [hJM.out.2]; exact HO2.out, HN2'.out⟩, by simp [intOf]; omega⟩
    · have hkl : t.data.toList.take (2 * j) = t.data.toList := List.take_of_length_le (by omega)
      rw [hkl] at HO HNB
      have HY := hid (unhex_yes (unhex_half _ HEV.out HNB.out))
      have HT := hid (ownY_text HO.out)
      have hcv := HT.out
      have hjI : ¬ 2 * (j : Int) < (t.size : Int) := by omega
      clear hkl
      go_wp2
      go_ret2
      exact ⟨ret_hexE (by rw [HY.out.1]) HY.out.2.symm, HN.out⟩
end Go.Proofs.YtnflhjagmngimaaGreatDoor
