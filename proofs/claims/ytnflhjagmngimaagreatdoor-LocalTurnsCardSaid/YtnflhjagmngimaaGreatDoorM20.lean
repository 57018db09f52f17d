/-
  Several texts in one, in their build order. The walks of names (the program) and name (the reference). Condition: the list lies as told. The walks of Valid and Format, of the program and of the reference. Conditions: the message lies as told; the library's table is laid.
-/
import Derived.Test.YtnflhjagmngimaaGreatDoorM9
import Derived.Test.YtnflhjagmngimaaGreatDoorM5
import Derived.Test.YtnflhjagmngimaaGreatDoorM11
import Derived.Test.YtnflhjagmngimaaGreatDoorM19
namespace Go.Proofs.YtnflhjagmngimaaGreatDoor
set_option linter.unusedSimpArgs false
set_option linter.unusedVariables false
open Go.RowKit

theorem nm_bad {l : List ByteArray} {k : Nat} (hk : k < l.length) (h : nameAt l k = false) : namesB l = false := by
  cases hb : namesB l with
  | false => rfl
  | true =>
    have := (namesB_iff.1 hb).1 k hk
    rw [h] at this
    cases this
theorem nm_good {l : List ByteArray} (h : ∀ k, k < l.length → nameAt l k = true) : namesB l = (decide (1 ≤ l.length) && decide (l.length ≤ 20)) := by
  rw [Bool.eq_iff_iff, namesB_iff]
  simp only [Bool.and_eq_true, decide_eq_true_eq]
  exact ⟨fun x => x.2, fun x => ⟨h, x⟩⟩
theorem nameAt_zero {l : List ByteArray} (h : 0 < l.length) : nameAt l 0 = decide (l[0].size = 20) := by
  unfold nameAt
  rw [List.getElem?_eq_getElem h]
  simp
theorem nameAt_succ {l : List ByteArray} {j : Nat} (h : j + 1 < l.length) : nameAt l (j + 1) = (decide (l[j + 1].size = 20) && Op.bytesLess l[j].toList l[j + 1].toList) := by
  unfold nameAt
  rw [List.getElem?_eq_getElem h]
  dsimp only
  rw [List.getElem?_eq_getElem (show j < l.length by omega)]
set_option maxRecDepth 100000 in
set_option maxHeartbeats 2000000 in
theorem names_any (a : Option Addr) (c : Nat) (l : List ByteArray) (w : World) (h : StrsAt w a c l) : Calls Tryz.prog 72 #[.slice a l.length c] w fun e w' => e = .returned (.bool (namesB l)) ∧ w = w' := by
  have hm1 := h.room; have hm2 := h.cap
  unfold maxLen at hm2
  have HSM := hid h.small
  obtain ⟨X, hX⟩ : ∃ X, X = namesB l := ⟨_, rfl⟩
  rw [← hX]
  have HX := hid hX
  clear hX
  by_cases hz : 0 < l.length
  · obtain ⟨b1, o1, rfl, hb1, hc1⟩ := h.get hz
    have HC1 := hid hc1
    clear h hc1
    go_enter Tryz.func72, Tryz.ntmps72
    go_wp2
    go_loopw [7] (fun i wr => ∃ k : Nat, i = .int .i64 k ∧ k ≤ l.length ∧ (∀ j, j < k → nameAt l j = true) ∧ wr = w) (fun i _ => l.length - (intOf i).toNat)
    case atStart => exact ⟨0, rfl, by omega, by omega, rfl⟩
    case round =>
      obtain ⟨k, rfl, hk, hb, rfl⟩ := hrel
      have HB := hid hb
      clear hb
      by_cases hlt : k < l.length
      · have hltI : (k : Int) < (l.length : Int) := by omega
        have hc := HC1.out k hlt
        have hsz0 := HSM.out l[k] (List.getElem_mem _)
        unfold maxLen at hsz0
        by_cases hsz : l[k].size = 20
        · have e1 : ((l[k].size : Int) != 20) = false := by rw [bne_eq_false_iff_eq]; omega
          rcases Nat.eq_zero_or_pos k with h0 | h0
          · subst h0
            rw [Nat.add_zero] at hc
            have HE := hid (show nameAt l 0 = true by rw [nameAt_zero hlt]; simpa using hsz)
            clear hsz
            go_wp2
            exact ⟨⟨1, by simp, by omega, fun j hj => by (obtain rfl : j = 0 := by omega); exact HE.out, trivial⟩, by simp [intOf]; omega⟩
          · obtain ⟨i, rfl⟩ : ∃ i, k = i + 1 := ⟨k - 1, by omega⟩
            have hp := HC1.out i (by omega)
            have hpi : ((i + 1 : Nat) : Int) - 1 = (i : Int) := by omega
            have h0I : (0 : Int) < ((i + 1 : Nat) : Int) := by omega
            have HNA := hid (nameAt_succ hlt)
            have hlt3 := less_total l[i + 1].toList l[i].toList
            obtain ⟨S, hS⟩ : ∃ S, S = l[i + 1] := ⟨_, rfl⟩
            obtain ⟨R, hR⟩ : ∃ R, R = l[i] := ⟨_, rfl⟩
            rw [← hS, ← hR] at HNA hlt3
            rw [← hS] at hc e1 hsz hsz0
            rw [← hR] at hp
            clear hS hR
            cases hbl : Op.bytesLess R.toList S.toList with
            | true =>
              rw [hbl] at hlt3
              have HE := hid (show nameAt l (i + 1) = true by rw [HNA.out, hbl]; simpa using hsz)
              clear hbl hsz
              go_wp2
              exact ⟨⟨i + 2, by simp; omega, by omega, fun j hj => by rcases Nat.lt_succ_iff_lt_or_eq.1 hj with h | h; exact HB.out j h; subst h; exact HE.out, trivial⟩, by simp [intOf]; omega⟩
            | false =>
              rw [hbl] at hlt3
              have HF := hid (show namesB l = false from nm_bad hlt (by rw [HNA.out, hbl, Bool.and_false]))
              clear hbl hsz
              go_wp2
              go_ret
              exact ⟨ret_bool (by rw [HX.out, HF.out]), rfl⟩
        · have e1 : ((l[k].size : Int) != 20) = true := by rw [bne_iff_ne]; omega
          have hbad : nameAt l k = false := by
            unfold nameAt
            rw [List.getElem?_eq_getElem hlt]
            simp only [decide_eq_false hsz, Bool.false_and]
          have HF := hid (nm_bad hlt hbad)
          rcases Nat.eq_zero_or_pos k with h0 | h0
          · subst h0
            rw [Nat.add_zero] at hc
            clear hsz hbad
            go_wp2
            go_ret
            exact ⟨ret_bool (by rw [HX.out, HF.out]), rfl⟩
          · obtain ⟨i, rfl⟩ : ∃ i, k = i + 1 := ⟨k - 1, by omega⟩
            clear hsz hbad
            go_wp2
            go_ret
            exact ⟨ret_bool (by rw [HX.out, HF.out]), rfl⟩
      · have HR := hid (nm_good (l := l) (fun j hj => HB.out j (by omega)))
        have g1 : (1 : Int) ≤ (l.length : Int) := by omega
        by_cases h20 : l.length ≤ 20
        · have e20 : (l.length : Int) ≤ 20 := by omega
          have HF := hid (show namesB l = true by rw [HR.out]; simp; omega)
          go_wp2
          go_ret
          exact ⟨ret_bool (by rw [HX.out, HF.out]), rfl⟩
        · have e20 : ¬ (l.length : Int) ≤ 20 := by omega
          have HF := hid (show namesB l = false by rw [HR.out]; simp; omega)
          go_wp2
          go_ret
          exact ⟨ret_bool (by rw [HX.out, HF.out]), rfl⟩
  · obtain rfl : l = [] := List.eq_nil_of_length_eq_zero (by omega)
    clear h
    have HF := hid (show namesB [] = false from rfl)
    go_enter Tryz.func72, Tryz.ntmps72
    go_wp2
    refine wp_loop_rounds 1 ?_
    rw [rounds_succ]
    go_wp2
    go_ret
    exact ⟨ret_bool (by rw [HX.out, HF.out]), rfl⟩
set_option maxHeartbeats 1000000 in
theorem rname_any (s : ByteArray) (w : World) (hs : s.size ≤ maxLen) : Calls Tryz.prog 55 #[.string s] w fun e w' => e = .returned (.bool (decide (s.size = 20))) ∧ w = w' := by
  unfold maxLen at hs
  by_cases h : s.size = 20
  · have e1 : ((s.size : Int) == 20) = true := by rw [beq_iff_eq]; omega
    rw [decide_eq_true h]
    clear h
    go_enter Tryz.func55, Tryz.ntmps55
    go_wp2
    go_ret
    exact ⟨rfl, rfl⟩
  · have e1 : ((s.size : Int) == 20) = false := by rw [beq_eq_false_iff_ne]; omega
    rw [decide_eq_false h]
    clear h
    go_enter Tryz.func55, Tryz.ntmps55
    go_wp2
    go_ret
    exact ⟨rfl, rfl⟩
end Go.Proofs.YtnflhjagmngimaaGreatDoor

namespace Go.Proofs.YtnflhjagmngimaaGreatDoor
set_option linter.unusedSimpArgs false
set_option linter.unusedVariables false
open Go.RowKit

/-- How a message lies that is handed over. -/
structure MsgAt (w : World) (a : Option Addr) (c : Nat) (m : MsgV) : Prop where
  port : -9223372036854775808 ≤ m.port ∧ m.port ≤ 9223372036854775807
  names : StrsAt w a c m.names
  cook : m.cookie.size ≤ maxLen
theorem MsgAt.new {w w' : World} {a : Option Addr} {c : Nat} {m : MsgV} (h : MsgAt w a c m) (n : New w w') : MsgAt w' a c m := ⟨h.port, h.names.new n, h.cook⟩
/-- A message as it is handed over. -/
abbrev msgV (a : Option Addr) (c : Nat) (m : MsgV) : Value := .agg #[.int .i64 m.port, .slice a m.names.length c, .string m.cookie]
theorem valid_port {m : MsgV} (h : ¬ (1 ≤ m.port ∧ m.port ≤ 65535)) : validM m = false := by
  cases hv : validM m with
  | false => rfl
  | true => exact absurd (valid_parts hv).1 h
theorem valid_names {m : MsgV} (h : namesB m.names = false) : validM m = false := by
  unfold validM
  rw [h, Bool.and_false, Bool.false_and]
theorem valid_cook {m : MsgV} (h : cookieOk m.cookie = false) : validM m = false := by
  unfold validM
  rw [h, Bool.and_false]
def fmtB (m : MsgV) : ByteArray := if validM m then mkB (writtenL m) else ⟨#[]⟩
def fmtE (m : MsgV) : Int := if validM m then 0 else 1
theorem ret_fmt {m : MsgV} {b : ByteArray} {e : Int} (h1 : b = fmtB m) (h2 : e = fmtE m) : Ending.returned (.tuple #[.string b, .int .i64 e]) = .returned (.tuple #[.string (fmtB m), .int .i64 (fmtE m)]) := by rw [h1, h2]
set_option maxRecDepth 100000 in
set_option maxHeartbeats 4000000 in
theorem Valid_any (m : MsgV) (a : Option Addr) (c : Nat) (w : World) (h : MsgAt w a c m) (ht : Tab w) : Calls Tryz.prog 41 #[msgV a c m] w fun e w' => e = .returned (.bool (validM m)) ∧ New w w' := by
  obtain ⟨pl, pu⟩ := h.port
  have HNM := hid (fun W (n : New w W) => names_any a c m.names W (h.names.new n))
  have HCK := hid (fun W => cookie_any m.cookie W h.cook)
  have HWR := hid (fun W (n : New w W) (hv : validM m = true) => written_any m a c W hv (h.names.new n) (ht.new n))
  have HWL := hid (fun (hv : validM m = true) => written_len hv)
  obtain ⟨X, hX⟩ : ∃ X, X = validM m := ⟨_, rfl⟩
  rw [← hX]
  have HX := hid hX
  clear hX
  have HVP := hid (fun q => valid_port (m := m) q)
  have HVN := hid (fun q => valid_names (m := m) q)
  have HVC := hid (fun q => valid_cook (m := m) q)
  have HVV := hid (fun (q0 : 1 ≤ m.port) (q1 : m.port ≤ 65535) (q2 : namesB m.names = true) (q3 : cookieOk m.cookie = true) => (show validM m = true from valid_of ⟨q0, q1⟩ q2 q3))
  have HB := hid (Blk.new w #[.int .i64 m.port, .slice a m.names.length c, .string m.cookie] 34)
  obtain ⟨port, hport⟩ : ∃ p, p = m.port := ⟨_, rfl⟩
  rw [← hport] at HVP HVV pl pu HB HWR
  clear h ht
  unfold msgV
  rw [← hport]
  clear hport
  by_cases p1 : 1 ≤ port
  · by_cases p2 : port ≤ 65535
    · cases hn : namesB m.names with
      | false =>
        rw [hn] at HNM
        have HF := hid (HVN.out hn)
        clear hn
        go_enter Tryz.func41, Tryz.ntmps41
        go_wp2_with (first | (go_at_call 72; refine (HNM.out _ ((Mod.refl _ _).alloc _)).mono ?_; rintro e w2 ⟨rfl, rfl⟩) | (go_at_call 73; refine (HCK.out _).mono ?_; rintro e w3 ⟨rfl, rfl⟩) | (go_at_call 42; refine (HWR.out _ ((Mod.refl _ _).alloc _)).mono ?_; rintro e w4 ⟨rfl, n4⟩; have N4 := hid n4; clear n4))
        go_ret
        exact ⟨ret_bool (by rw [HX.out, HF.out]), (Mod.refl _ _).alloc _⟩
      | true =>
        rw [hn] at HNM
        cases hc : cookieOk m.cookie with
        | false =>
          rw [hc] at HCK
          have HF := hid (HVC.out hc)
          clear hn hc
          go_enter Tryz.func41, Tryz.ntmps41
          go_wp2_with (first | (go_at_call 72; refine (HNM.out _ ((Mod.refl _ _).alloc _)).mono ?_; rintro e w2 ⟨rfl, rfl⟩) | (go_at_call 73; refine (HCK.out _).mono ?_; rintro e w3 ⟨rfl, rfl⟩) | (go_at_call 42; refine (HWR.out _ ((Mod.refl _ _).alloc _)).mono ?_; rintro e w4 ⟨rfl, n4⟩; have N4 := hid n4; clear n4))
          go_ret
          exact ⟨ret_bool (by rw [HX.out, HF.out]), (Mod.refl _ _).alloc _⟩
        | true =>
          rw [hc] at HCK
          have hvt := HVV.out p1 p2 hn hc
          have HT := hid (show validM m = true from hvt)
          have HWR := hid (fun W n => HWR.out W n HT.out)
          have hwl := HWL.out HT.out
          have hsz : (mkB (writtenL m)).size ≤ 1400 := by rw [mkB_size]; exact hwl
          have hszI : ((mkB (writtenL m)).size : Int) ≤ 1400 := by omega
          clear hn hc hvt hwl
          go_enter Tryz.func41, Tryz.ntmps41
          go_wp2_with (first | (go_at_call 72; refine (HNM.out _ ((Mod.refl _ _).alloc _)).mono ?_; rintro e w2 ⟨rfl, rfl⟩) | (go_at_call 73; refine (HCK.out _).mono ?_; rintro e w3 ⟨rfl, rfl⟩) | (go_at_call 42; refine (HWR.out _ ((Mod.refl _ _).alloc _)).mono ?_; rintro e w4 ⟨rfl, n4⟩; have N4 := hid n4; clear n4))
          go_ret
          exact ⟨ret_bool (by rw [HX.out, HT.out]), ((Mod.refl _ _).alloc _).trans N4.out⟩
    · have HF := hid (HVP.out (by omega))
      go_enter Tryz.func41, Tryz.ntmps41
      go_wp2
      go_ret
      exact ⟨ret_bool (by rw [HX.out, HF.out]), (Mod.refl _ _).alloc _⟩
  · have HF := hid (HVP.out (by omega))
    go_enter Tryz.func41, Tryz.ntmps41
    go_wp2
    go_ret
    exact ⟨ret_bool (by rw [HX.out, HF.out]), (Mod.refl _ _).alloc _⟩
set_option maxRecDepth 100000 in
set_option maxHeartbeats 4000000 in
theorem Format_any (m : MsgV) (a : Option Addr) (c : Nat) (w : World) (h : MsgAt w a c m) (ht : Tab w) : Calls Tryz.prog 32 #[msgV a c m] w fun e w' => e = .returned (.tuple #[.string (fmtB m), .int .i64 (fmtE m)]) ∧ New w w' := by
  have HV := hid (fun W (n : New w W) => Valid_any m a c W (h.new n) (ht.new n))
  have HWR := hid (fun (hv : validM m = true) W (n : New w W) => written_any m a c W hv (h.names.new n) (ht.new n))
  have HB := hid (Blk.new w #[.int .i64 m.port, .slice a m.names.length c, .string m.cookie] 34)
  clear h ht
  cases hv : validM m with
  | true =>
    rw [hv] at HV
    have HWR := hid (HWR.out hv)
    have HR := hid (show fmtB m = mkB (writtenL m) ∧ fmtE m = 0 by unfold fmtB fmtE; rw [hv]; exact ⟨rfl, rfl⟩)
    clear hv
    go_enter Tryz.func32, Tryz.ntmps32
    go_wp2_with fail
    refine (HV.out _ ((Mod.refl _ _).alloc _)).mono ?_
    rintro e w1 ⟨rfl, n1⟩
    have N1 := hid (((Mod.refl _ w).alloc (.cells #[.int .i64 m.port, .slice a m.names.length c, .string m.cookie] 34)).trans n1 : New w w1)
    have B1 := hid (n1.blk HB.out)
    clear n1
    have d0 := B1.out.cellv 0 rfl; have d1 := B1.out.cellv 1 rfl; have d2 := B1.out.cellv 2 rfl; have d3 := B1.out.lt
    go_wp2_with fail
    refine (HWR.out _ N1.out).mono ?_
    rintro e w2 ⟨rfl, n2⟩
    have N2 := hid (N1.out.trans n2)
    clear n2
    go_wp2
    go_ret2
    exact ⟨ret_fmt HR.out.1.symm HR.out.2.symm, N2.out⟩
  | false =>
    rw [hv] at HV
    have HR := hid (show fmtB m = ⟨#[]⟩ ∧ fmtE m = 1 by unfold fmtB fmtE; rw [hv]; exact ⟨rfl, rfl⟩)
    clear hv
    go_enter Tryz.func32, Tryz.ntmps32
    go_wp2_with fail
    refine (HV.out _ ((Mod.refl _ _).alloc _)).mono ?_
    rintro e w1 ⟨rfl, n1⟩
    have N1 := hid (((Mod.refl _ w).alloc (.cells #[.int .i64 m.port, .slice a m.names.length c, .string m.cookie] 34)).trans n1 : New w w1)
    clear n1
    go_wp2
    go_ret2
    exact ⟨ret_fmt HR.out.1.symm HR.out.2.symm, N1.out⟩
end Go.Proofs.YtnflhjagmngimaaGreatDoor
