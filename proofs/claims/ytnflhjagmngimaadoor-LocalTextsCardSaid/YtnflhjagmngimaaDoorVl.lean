/-
  The walks of Valid and Format, of the program and of the reference. Conditions: the message lies as told; the library's table is laid.
-/
import Derived.Test.YtnflhjagmngimaaDoorWn
import Derived.Test.YtnflhjagmngimaaDoorCk
import Derived.Test.YtnflhjagmngimaaDoorLnm
namespace Go.Proofs.YtnflhjagmngimaaDoor
set_option linter.unusedSimpArgs false
set_option linter.unusedVariables false
open Go.RowKit

/-- How a message lies that is handed over. -/
structure MsgAt (w : World) (a : Option Addr) (c : Nat) (m : MsgV) : Prop where
  port : -9223372036854775808 ≤ m.port ∧ m.port ≤ 9223372036854775807
  names : StrsAt w a c m.names
  cook : m.cookie.size ≤ maxLen
theorem MsgAt.new {w w' : World} {a : Option Addr} {c : Nat} {m : MsgV} (h : MsgAt w a c m) (n : New w w') : MsgAt w' a c m := ⟨h.port, h.names.new n, h.cook⟩
/-- A message as it is handed over. -/
abbrev msgV (a : Option Addr) (c : Nat) (m : MsgV) : Value := .agg #[.int .i64 m.port, .slice a m.names.length c, .string m.cookie]
theorem valid_port {m : MsgV} (h : ¬ (1 ≤ m.port ∧ m.port ≤ 65535)) : validM m = false := by
  cases hv : validM m with
  | false => rfl
  | true => exact absurd (valid_parts hv).1 h
theorem valid_names {m : MsgV} (h : namesB m.names = false) : validM m = false := by
  unfold validM
  rw [h, Bool.and_false, Bool.false_and]
theorem valid_cook {m : MsgV} (h : cookieOk m.cookie = false) : validM m = false := by
  unfold validM
  rw [h, Bool.and_false]
def fmtB (m : MsgV) : ByteArray := if validM m then mkB (writtenL m) else ⟨#[]⟩
def fmtE (m : MsgV) : Int := if validM m then 0 else 1
theorem ret_fmt {m : MsgV} {b : ByteArray} {e : Int} (h1 : b = fmtB m) (h2 : e = fmtE m) : Ending.returned (.tuple #[.string b, .int .i64 e]) = .returned (.tuple #[.string (fmtB m), .int .i64 (fmtE m)]) := by rw [h1, h2]
set_option maxRecDepth 100000 in
set_option maxHeartbeats 4000000 in
theorem Valid_any (m : MsgV) (a : Option Addr) (c : Nat) (w : World) (h : MsgAt w a c m) (ht : Tab w) : Calls Tryd.prog 7 #[msgV a c m] w fun e w' => e = .returned (.bool (validM m)) ∧ New w w' := by
  obtain ⟨pl, pu⟩ := h.port
  have HNM := hid (fun W (n : New w W) => names_any a c m.names W (h.names.new n))
  have HCK := hid (fun W => cookie_any m.cookie W h.cook)
  have HWR := hid (fun W (n : New w W) (hv : validM m = true) => written_any m a c W hv (h.names.new n) (ht.new n))
  have HWL := hid (fun (hv : validM m = true) => written_len hv)
  obtain ⟨X, hX⟩ : ∃ X, X = validM m := ⟨_, rfl⟩
  rw [← hX]
  have HX := hid hX
  clear hX
  have HVP := hid (fun q => valid_port (m := m) q)
  have HVN := hid (fun q => valid_names (m := m) q)
  have HVC := hid (fun q => valid_cook (m := m) q)
  have HVV := hid (fun (q0 : 1 ≤ m.port) (q1 : m.port ≤ 65535) (q2 : namesB m.names = true) (q3 : cookieOk m.cookie = true) => (show validM m = true from valid_of ⟨q0, q1⟩ q2 q3))
  have HB := hid (Blk.new w #[.int .i64 m.port, .slice a m.names.length c, .string m.cookie] 24)
  obtain ⟨port, hport⟩ : ∃ p, p = m.port := ⟨_, rfl⟩
  rw [← hport] at HVP HVV pl pu HB HWR
  clear h ht
  unfold msgV
  rw [← hport]
  clear hport
  by_cases p1 : 1 ≤ port
  · by_cases p2 : port ≤ 65535
    · cases hn : namesB m.names with
      | false =>
        rw [hn] at HNM
        have HF := hid (HVN.out hn)
        clear hn
        go_enter Tryd.func7, Tryd.ntmps7
        go_wp2_with (first | (go_at_call 14; refine (HNM.out _ ((Mod.refl _ _).alloc _)).mono ?_; rintro e w2 ⟨rfl, rfl⟩) | (go_at_call 15; refine (HCK.out _).mono ?_; rintro e w3 ⟨rfl, rfl⟩) | (go_at_call 12; refine (HWR.out _ ((Mod.refl _ _).alloc _)).mono ?_; rintro e w4 ⟨rfl, n4⟩; have N4 := hid n4; clear n4))
        go_ret
        exact ⟨ret_bool (by rw [HX.out, HF.out]), (Mod.refl _ _).alloc _⟩
      | true =>
        rw [hn] at HNM
        cases hc : cookieOk m.cookie with
        | false =>
          rw [hc] at HCK
          have HF := hid (HVC.out hc)
          clear hn hc
          go_enter Tryd.func7, Tryd.ntmps7
          go_wp2_with (first | (go_at_call 14; refine (HNM.out _ ((Mod.refl _ _).alloc _)).mono ?_; rintro e w2 ⟨rfl, rfl⟩) | (go_at_call 15; refine (HCK.out _).mono ?_; rintro e w3 ⟨rfl, rfl⟩) | (go_at_call 12; refine (HWR.out _ ((Mod.refl _ _).alloc _)).mono ?_; rintro e w4 ⟨rfl, n4⟩; have N4 := hid n4; clear n4))
          go_ret
          exact ⟨ret_bool (by rw [HX.out, HF.out]), (Mod.refl _ _).alloc _⟩
        | true =>
          rw [hc] at HCK
          have hvt := HVV.out p1 p2 hn hc
          have HT := hid (show validM m = true from hvt)
          have HWR := hid (fun W n => HWR.out W n HT.out)
          have hwl := HWL.out HT.out
          have hsz : (mkB (writtenL m)).size ≤ 1400 := by rw [mkB_size]; exact hwl
          have hszI : ((mkB (writtenL m)).size : Int) ≤ 1400 := by omega
          clear hn hc hvt hwl
          go_enter Tryd.func7, Tryd.ntmps7
          go_wp2_with (first | (go_at_call 14; refine (HNM.out _ ((Mod.refl _ _).alloc _)).mono ?_; rintro e w2 ⟨rfl, rfl⟩) | (go_at_call 15; refine (HCK.out _).mono ?_; rintro e w3 ⟨rfl, rfl⟩) | (go_at_call 12; refine (HWR.out _ ((Mod.refl _ _).alloc _)).mono ?_; rintro e w4 ⟨rfl, n4⟩; have N4 := hid n4; clear n4))
          go_ret
          exact ⟨ret_bool (by rw [HX.out, HT.out]), ((Mod.refl _ _).alloc _).trans N4.out⟩
    · have HF := hid (HVP.out (by omega))
      go_enter Tryd.func7, Tryd.ntmps7
      go_wp2
      go_ret
      exact ⟨ret_bool (by rw [HX.out, HF.out]), (Mod.refl _ _).alloc _⟩
  · have HF := hid (HVP.out (by omega))
    go_enter Tryd.func7, Tryd.ntmps7
    go_wp2
    go_ret
    exact ⟨ret_bool (by rw [HX.out, HF.out]), (Mod.refl _ _).alloc _⟩
set_option maxRecDepth 100000 in
set_option maxHeartbeats 4000000 in
theorem Format_any (m : MsgV) (a : Option Addr) (c : Nat) (w : World) (h : MsgAt w a c m) (ht : Tab w) : Calls Tryd.prog 5 #[msgV a c m] w fun e w' => e = .returned (.tuple #[.string (fmtB m), .int .i64 (fmtE m)]) ∧ New w w' := by
  have HV := hid (fun W (n : New w W) => Valid_any m a c W (h.new n) (ht.new n))
  have HWR := hid (fun (hv : validM m = true) W (n : New w W) => written_any m a c W hv (h.names.new n) (ht.new n))
  have HB := hid (Blk.new w #[.int .i64 m.port, .slice a m.names.length c, .string m.cookie] 24)
  clear h ht
  cases hv : validM m with
  | true =>
    rw [hv] at HV
    have HWR := hid (HWR.out hv)
    have HR := hid (show fmtB m = mkB (writtenL m) ∧ fmtE m = 0 by unfold fmtB fmtE; rw [hv]; exact ⟨rfl, rfl⟩)
    clear hv
    go_enter Tryd.func5, Tryd.ntmps5
    go_wp2_with fail
    refine (HV.out _ ((Mod.refl _ _).alloc _)).mono ?_
    rintro e w1 ⟨rfl, n1⟩
    have N1 := hid (((Mod.refl _ w).alloc (.cells #[.int .i64 m.port, .slice a m.names.length c, .string m.cookie] 24)).trans n1 : New w w1)
    have B1 := hid (n1.blk HB.out)
    clear n1
    have d0 := B1.out.cellv 0 rfl; have d1 := B1.out.cellv 1 rfl; have d2 := B1.out.cellv 2 rfl; have d3 := B1.out.lt
    go_wp2_with fail
    refine (HWR.out _ N1.out).mono ?_
    rintro e w2 ⟨rfl, n2⟩
    have N2 := hid (N1.out.trans n2)
    clear n2
    go_wp2
    go_ret2
    exact ⟨ret_fmt HR.out.1.symm HR.out.2.symm, N2.out⟩
  | false =>
    rw [hv] at HV
    have HR := hid (show fmtB m = ⟨#[]⟩ ∧ fmtE m = 1 by unfold fmtB fmtE; rw [hv]; exact ⟨rfl, rfl⟩)
    clear hv
    go_enter Tryd.func5, Tryd.ntmps5
    go_wp2_with fail
    refine (HV.out _ ((Mod.refl _ _).alloc _)).mono ?_
    rintro e w1 ⟨rfl, n1⟩
    have N1 := hid (((Mod.refl _ w).alloc (.cells #[.int .i64 m.port, .slice a m.names.length c, .string m.cookie] 24)).trans n1 : New w w1)
    clear n1
    go_wp2
    go_ret2
    exact ⟨ret_fmt HR.out.1.symm HR.out.2.symm, N1.out⟩
end Go.Proofs.YtnflhjagmngimaaDoor
