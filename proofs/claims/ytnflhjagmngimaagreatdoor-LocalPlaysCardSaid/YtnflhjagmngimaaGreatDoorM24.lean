/-
  Several texts in one, in their build order. The closure that Parse defers: a frame that returns; a frame that panics with a line's number. Conditions: the three results' boxes lie as told. The walks of Valid and Format of the reference. Conditions: the message lies as told; the library's table is laid.
-/
import Derived.Test.YtnflhjagmngimaaGreatDoorM23
import Derived.Defers
import Derived.Recover
import Derived.Test.YtnflhjagmngimaaGreatDoorM14
namespace Go.Proofs.YtnflhjagmngimaaGreatDoor
set_option linter.unusedSimpArgs false
set_option linter.unusedVariables false
open Go.RowKit

theorem lcatch_idle (p q r : Addr) (w : World) :
    CallsD Tryz.prog 82 #[.pointer (some p), .pointer (some q), .pointer (some r)] .returning w fun e u' w' => e = .returned (.tuple #[]) ∧ u' = .returning ∧ w' = w := by
  refine callsD_of_wpS Tryz.func82 rfl fun c₀ cs hu => ?_
  apply wpS_seq
  apply wpS_region
  simp [wpOpsS, go_sem, recoverD, hu, Tryz.ntmps82, Exit.thenS, show Array.replicate 15 undef = #[undef, undef, undef, undef, undef, undef, undef, undef, undef, undef, undef, undef, undef, undef, undef] from rfl]
  refine wpS_of_wp ?_
  go_wp2
  cases c₀
  simp_all [bodyPostS, results, Tryz.results82]
set_option maxRecDepth 100000 in
set_option maxHeartbeats 2000000 in
theorem lcatch_told (p q r : Nat) (i : Int) (w : World) (hp : Blk w p #[.int .i64 0, .slice none 0 0, .string ⟨#[]⟩] 34) (hq : Blk w q #[.int .i64 0] 3) (hr : Blk w r #[.int .i64 0] 25) (hpq : p ≠ q) (hpr : p ≠ r) (hqr : q ≠ r) :
    CallsD Tryz.prog 82 #[.pointer (some ⟨p, 0, none⟩), .pointer (some ⟨q, 0, none⟩), .pointer (some ⟨r, 0, none⟩)] (.panicking (toldL i)) w fun e u' w' =>
      e = .returned (.tuple #[]) ∧ u' = .panicking [{ v := .iface 121 (.agg #[.int .i64 i]), recovered := true }] ∧ Blk w' p #[.int .i64 0, .slice none 0 0, .string ⟨#[]⟩] 34 ∧ Blk w' q #[.int .i64 i] 3 ∧ Blk w' r #[.int .i64 2] 25 ∧ Mod (fun k => k = p ∨ k = q ∨ k = r) w w' := by
  have HP := hid hp; have HQ := hid hq; have HR := hid hr
  have p0 := hp.cellv 0 rfl; have p1 := hp.cellv 1 rfl; have p2 := hp.cellv 2 rfl; have p3 := hp.lt; have p4 := hp.frz
  obtain ⟨q1, q2, q3⟩ := hq.one
  obtain ⟨r1, r2, r3⟩ := hr.one
  clear hp hq hr
  unfold toldL
  have hta : ∀ (x : Int) (w : World), (Instr.typeAssert (.iface 121 (.agg #[.int .i64 x])) 20 121 true).run Tryz.prog w = .ok (.tuple #[.agg #[.int .i64 x], .bool true]) w := fun _ _ => by simp [Instr.typeAssert, run_underlying Tryz.underlying121, Result.andThen]
  refine callsD_of_wpS Tryz.func82 rfl fun c₀ cs hu => ?_
  apply wpS_seq
  apply wpS_region
  simp [wpOpsS, go_sem, recoverD, hu, Tryz.ntmps82, Exit.thenS, show Array.replicate 15 undef = #[undef, undef, undef, undef, undef, undef, undef, undef, undef, undef, undef, undef, undef, undef, undef] from rfl, show Array.replicate 12 undef = #[undef, undef, undef, undef, undef, undef, undef, undef, undef, undef, undef, undef] from rfl]
  refine wpS_of_wp ?_
  go_wp2
  go_region
  go_wp2
  refine ⟨rfl, .panicking [{ v := .iface 121 (.agg #[.int .i64 i]), recovered := true }], ?_, .tuple #[], by simp [results, Tryz.results82], rfl, rfl, ?_, ?_, ?_, ?_⟩
  · first | rfl | (simp; done) | (cases c₀; simp_all)
  · apply Blk.row
    · repeat (first | with_reducible exact HP.out | (with_reducible apply Blk.newAt; (simp; done)) | with_reducible apply Blk.alloc | with_reducible apply Blk.drew | with_reducible apply Blk.drewN | with_reducible apply Blk.set | (with_reducible apply Blk.other; · first | (simp; done) | (simp; omega) | omega) | (with_reducible apply Blk.putObj; · first | (simp; done) | (simp; omega) | omega))
    · rfl
  · apply Blk.row
    · repeat (first | with_reducible exact HQ.out | (with_reducible apply Blk.newAt; (simp; done)) | with_reducible apply Blk.alloc | with_reducible apply Blk.drew | with_reducible apply Blk.drewN | with_reducible apply Blk.set | (with_reducible apply Blk.other; · first | (simp; done) | (simp; omega) | omega) | (with_reducible apply Blk.putObj; · first | (simp; done) | (simp; omega) | omega))
    · rfl
  · apply Blk.row
    · repeat (first | with_reducible exact HR.out | (with_reducible apply Blk.newAt; (simp; done)) | with_reducible apply Blk.alloc | with_reducible apply Blk.drew | with_reducible apply Blk.drewN | with_reducible apply Blk.set | (with_reducible apply Blk.other; · first | (simp; done) | (simp; omega) | omega) | (with_reducible apply Blk.putObj; · first | (simp; done) | (simp; omega) | omega))
    · rfl
  · repeat (first | with_reducible exact Mod.refl _ _ | with_reducible refine Mod.alloc ?_ _ | with_reducible refine Mod.drew ?_ | with_reducible refine Mod.drewN ?_ _ | (with_reducible refine Mod.set ?_ _ _ (by first | exact .inl rfl | (right; omega) | (right; simp; done) | (right; simp; omega) | (left; omega) | (left; simp; done) | (left; simp; omega))) | (with_reducible refine Mod.putObj ?_ _ _ (by first | exact .inl rfl | (right; omega) | (right; simp; done) | (right; simp; omega) | (left; omega) | (left; simp; done) | (left; simp; omega))))
theorem ps_results (tmps : Array Value) (w : World) (p q r : Nat) (m0 m1 m2 : Value) (b c : Int) (hp : Blk w p #[m0, m1, m2] 34) (hq : Blk w q #[.int .i64 b] 3) (hr : Blk w r #[.int .i64 c] 25)
    (h2 : tmps.getD 2 undef = .pointer (some ⟨p, 0, none⟩)) (h3 : tmps.getD 3 undef = .pointer (some ⟨q, 0, none⟩)) (h4 : tmps.getD 4 undef = .pointer (some ⟨r, 0, none⟩)) :
    (results Tryz.f50 tmps).run Tryz.prog w = .ok (.tuple #[.agg #[m0, m1, m2], .int .i64 b, .int .i64 c]) w := by
  have p0 := hp.cellv 0 rfl; have p1 := hp.cellv 1 rfl; have p2 := hp.cellv 2 rfl
  obtain ⟨q1, -, -⟩ := hq.one
  obtain ⟨r1, -, -⟩ := hr.one
  have h2' : tmps[2]?.getD undef = .pointer (some ⟨p, 0, none⟩) := by simpa using h2
  have h3' : tmps[3]?.getD undef = .pointer (some ⟨q, 0, none⟩) := by simpa using h3
  have h4' : tmps[4]?.getD undef = .pointer (some ⟨r, 0, none⟩) := by simpa using h4
  simp [results, Tryz.results50, h2', h3', h4', asAddr, go_sem, p0, p1, p2, q1, r1, Result.andThen]
theorem StrsAt.far {S : Nat → Prop} {w w' : World} {a : Option Addr} {c : Nat} {p : List ByteArray} (h : StrsAt w a c p) (hm : Mod S w w') (hs : ∀ x, a = some x → ¬ S x.block) : StrsAt w' a c p := by
  refine ⟨h.room, h.cap, h.small, ?_⟩
  rcases h.at' with q | ⟨b, o, e, hb, hc⟩
  · exact .inl q
  · refine .inr ⟨b, o, e, Nat.lt_of_lt_of_le hb hm.size, fun i s hi => ?_⟩
    have := hc i s hi
    unfold World.cell? at this ⊢
    rw [hm.block b hb (hs _ e)]
    exact this
/-- What Parse answers. -/
def PsRes (t : ByteArray) (e : Ending) (w' : World) : Prop := match readP (linesC t.data.toList) with
  | .ok m => ∃ a c, e = .returned (.tuple #[msgV a c m, .int .i64 0, .int .i64 0]) ∧ StrsAt w' a c m.names
  | .error n => e = .returned (.tuple #[msgV none 0 ⟨0, [], ⟨#[]⟩⟩, .int .i64 n, .int .i64 2])
set_option maxRecDepth 100000 in
set_option maxHeartbeats 2000000 in
theorem Parse_long (t : ByteArray) (w : World) (hs : 1400 < t.size) (h2 : t.size ≤ maxLen) :
    Calls Tryz.prog 50 #[.string t] w fun e w' => e = .returned (.tuple #[msgV none 0 ⟨0, [], ⟨#[]⟩⟩, .int .i64 0, .int .i64 3]) ∧ New w w' := by
  have hsI : (1400 : Int) < (t.size : Int) := by omega
  unfold maxLen at h2
  clear hs
  go_enter_defers Tryz.func50, Tryz.ntmps50
  go_wp2
  exact ⟨_, ps_results _ _ w.heap.size (w.heap.size + 1) (w.heap.size + 1 + 1) _ _ _ _ _ (((Blk.new w _ _).alloc _).alloc _) ((Blk.newAt (by simp)).alloc _) (Blk.newAt (by simp)) rfl rfl rfl, rfl, (((Mod.refl _ _).alloc _).alloc _).alloc _⟩
set_option maxRecDepth 100000 in
set_option maxHeartbeats 4000000 in
theorem Parse_go (t : ByteArray) (w : World) (hv : VarsL w) (hs : t.size ≤ 1400) :
    Calls Tryz.prog 50 #[.string t] w fun e w' => PsRes t e w' ∧ New w w' := by
  have hmf : ∀ (fn : Fn) (first cap : Array Value) (w : World), (Instr.makeFunc fn first cap).run Tryz.prog w = .ok (.func fn first cap) w := fun _ _ _ _ => rfl
  have hsI : ¬ (1400 : Int) < (t.size : Int) := by omega
  have HRD := hid (fun W (n : New w W) => read_any t W (hv.new n) (by omega))
  clear hv hs
  unfold PsRes
  obtain ⟨res, hres⟩ : ∃ r, r = readP (linesC t.data.toList) := ⟨_, rfl⟩
  rw [← hres] at HRD ⊢
  clear hres
  have BP := hid (((Blk.new w #[.int .i64 0, .slice none 0 0, .string ⟨#[]⟩] 34).alloc (.cells #[.int .i64 0] 3)).alloc (.cells #[.int .i64 0] 25))
  have BQ := hid (((Blk.newAt (w := w.alloc (.cells #[.int .i64 0, .slice none 0 0, .string ⟨#[]⟩] 34)) (b := w.heap.size + 1) (cs := #[.int .i64 0]) (t := 3) (by simp)).alloc (.cells #[.int .i64 0] 25)))
  have BR := hid ((Blk.newAt (w := (w.alloc (.cells #[.int .i64 0, .slice none 0 0, .string ⟨#[]⟩] 34)).alloc (.cells #[.int .i64 0] 3)) (b := w.heap.size + 1 + 1) (cs := #[.int .i64 0]) (t := 25) (by simp)))
  have HNA := hid ((((Mod.refl _ w).alloc (.cells #[.int .i64 0, .slice none 0 0, .string ⟨#[]⟩] 34)).alloc (.cells #[.int .i64 0] 3)).alloc (.cells #[.int .i64 0] 25) : New w _)
  cases res with
  | error n =>
    go_enter_defers Tryz.func50, Tryz.ntmps50
    go_wp2_with fail
    refine (HRD.out _ HNA.out).mono ?_
    rintro e w1 ⟨rfl, n1⟩
    have P1 := n1.blk BP.out; have Q1 := n1.blk BQ.out; have R1 := n1.blk BR.out
    have NN := hid (HNA.out.trans n1)
    go_wp2
    refine leaves_cons (f := 82) (args := #[.pointer (some ⟨w.heap.size, 0, none⟩), .pointer (some ⟨w.heap.size + 1, 0, none⟩), .pointer (some ⟨w.heap.size + 1 + 1, 0, none⟩)]) (by simp) (by simp [go_sem]) ?_
    refine (lcatch_told w.heap.size (w.heap.size + 1) (w.heap.size + 1 + 1) n _ P1 Q1 R1 (by omega) (by omega) (by omega)).mono ?_
    rintro e u' w3 ⟨rfl, rfl, bp, bq, br, m3⟩
    exact ⟨_, ps_results _ _ w.heap.size (w.heap.size + 1) (w.heap.size + 1 + 1) _ _ _ _ _ bp bq br rfl rfl rfl, rfl, NN.out.trans' m3 (fun j q1 q2 => by omega)⟩
  | ok m =>
    go_enter_defers Tryz.func50, Tryz.ntmps50
    go_wp2_with fail
    refine (HRD.out _ HNA.out).mono ?_
    rintro e w1 ⟨⟨a, c, rfl, hst, hbb⟩, n1⟩
    have HBP := hid (n1.blk BP.out); have HBQ := hid (n1.blk BQ.out); have HBR := hid (n1.blk BR.out)
    have NN := hid (HNA.out.trans n1); have HST := hid hst
    have HBB : Hid (∀ x, a = some x → w.heap.size + 3 ≤ x.block) := hid (fun x hx => by have := hbb x hx; simpa using this)
    clear hbb
    have p0 := HBP.out.cellv 0 rfl; have p1 := HBP.out.cellv 1 rfl; have p2 := HBP.out.cellv 2 rfl; have p3 := HBP.out.lt; have p4 := HBP.out.frz
    obtain ⟨q1, q2, q3⟩ := HBQ.out.one
    obtain ⟨r1, r2, r3⟩ := HBR.out.one
    clear n1 hst
    go_wp2
    refine leaves_cons (f := 82) (args := #[.pointer (some ⟨w.heap.size, 0, none⟩), .pointer (some ⟨w.heap.size + 1, 0, none⟩), .pointer (some ⟨w.heap.size + 1 + 1, 0, none⟩)]) (by simp) (by simp [go_sem]) ?_
    refine (lcatch_idle ⟨w.heap.size, 0, none⟩ ⟨w.heap.size + 1, 0, none⟩ ⟨w.heap.size + 1 + 1, 0, none⟩ _).mono ?_
    rintro e u' w3 ⟨rfl, rfl, rfl⟩
    have b0 := (((((HBP.out.set 0 (.int .i64 m.port)).set 1 (.slice a m.names.length c)).set 2 (.string m.cookie)).other (p := ⟨w.heap.size + 1, 0, none⟩) (u := .int .i64 0) (by simp)).other (p := ⟨w.heap.size + 1 + 1, 0, none⟩) (u := .int .i64 0) (by simp; omega)).row (cs' := #[.int .i64 m.port, .slice a m.names.length c, .string m.cookie]) rfl
    have b1 : Blk ((((((w1.setCell ⟨w.heap.size, 0, none⟩ (.int .i64 m.port)).setCell ⟨w.heap.size, 1, none⟩ (.slice a m.names.length c)).setCell ⟨w.heap.size, 2, none⟩ (.string m.cookie)).setCell ⟨w.heap.size + 1, 0, none⟩ (.int .i64 0))).setCell ⟨w.heap.size + 1 + 1, 0, none⟩ (.int .i64 0)) (w.heap.size + 1) #[.int .i64 0] 3 := by
      apply Blk.row
      · repeat (first | with_reducible exact HBQ.out | (with_reducible apply Blk.newAt; (simp; done)) | with_reducible apply Blk.alloc | with_reducible apply Blk.drew | with_reducible apply Blk.drewN | with_reducible apply Blk.set | (with_reducible apply Blk.other; · first | (simp; done) | (simp; omega) | omega) | (with_reducible apply Blk.putObj; · first | (simp; done) | (simp; omega) | omega))
      · rfl
    have b2 : Blk ((((((w1.setCell ⟨w.heap.size, 0, none⟩ (.int .i64 m.port)).setCell ⟨w.heap.size, 1, none⟩ (.slice a m.names.length c)).setCell ⟨w.heap.size, 2, none⟩ (.string m.cookie)).setCell ⟨w.heap.size + 1, 0, none⟩ (.int .i64 0))).setCell ⟨w.heap.size + 1 + 1, 0, none⟩ (.int .i64 0)) (w.heap.size + 1 + 1) #[.int .i64 0] 25 := by
      apply Blk.row
      · repeat (first | with_reducible exact HBR.out | (with_reducible apply Blk.newAt; (simp; done)) | with_reducible apply Blk.alloc | with_reducible apply Blk.drew | with_reducible apply Blk.drewN | with_reducible apply Blk.set | (with_reducible apply Blk.other; · first | (simp; done) | (simp; omega) | omega) | (with_reducible apply Blk.putObj; · first | (simp; done) | (simp; omega) | omega))
      · rfl
    have hM : Mod (fun j => w.heap.size ≤ j ∧ j ≤ w.heap.size + 2) w1 ((((((w1.setCell ⟨w.heap.size, 0, none⟩ (.int .i64 m.port)).setCell ⟨w.heap.size, 1, none⟩ (.slice a m.names.length c)).setCell ⟨w.heap.size, 2, none⟩ (.string m.cookie)).setCell ⟨w.heap.size + 1, 0, none⟩ (.int .i64 0))).setCell ⟨w.heap.size + 1 + 1, 0, none⟩ (.int .i64 0)) :=
      (((((Mod.refl _ w1).set _ _ (.inl (by dsimp only; omega))).set _ _ (.inl (by dsimp only; omega))).set _ _ (.inl (by dsimp only; omega))).set _ _ (.inl (by dsimp only; omega))).set _ _ (.inl (by dsimp only; omega))
    have hst2 := HST.out.far hM (fun x hx q => by have := HBB.out x hx; omega)
    exact ⟨_, ps_results _ _ w.heap.size (w.heap.size + 1) (w.heap.size + 1 + 1) _ _ _ _ _ b0 b1 b2 rfl rfl rfl, ⟨a, c, rfl, hst2⟩, NN.out.trans' hM (fun j q1 q2 => by omega)⟩
end Go.Proofs.YtnflhjagmngimaaGreatDoor

namespace Go.Proofs.YtnflhjagmngimaaGreatDoor
set_option linter.unusedSimpArgs false
set_option linter.unusedVariables false
open Go.RowKit

set_option maxRecDepth 100000 in
set_option maxHeartbeats 4000000 in
theorem rValid_any (m : MsgV) (a : Option Addr) (c : Nat) (w : World) (h : MsgAt w a c m) (ht : Tab w) : Calls Tryz.prog 47 #[msgV a c m] w fun e w' => e = .returned (.bool (validM m)) ∧ New w w' := by
  obtain ⟨pl, pu⟩ := h.port
  have hm1 := h.names.room; have hm2 := h.names.cap
  unfold maxLen at hm2
  have HSM := hid h.names.small
  have HCK := hid (fun W => rcookie_any m.cookie W h.cook)
  have HNM := hid (fun (s : ByteArray) (q : s.size ≤ maxLen) W => rname_any s W q)
  have HWR := hid (fun (hv : validM m = true) W (n : New w W) => text_any m a c W hv (h.names.new n) (ht.new n))
  have HWL := hid (fun (hv : validM m = true) => written_len hv)
  obtain ⟨X, hX⟩ : ∃ X, X = validM m := ⟨_, rfl⟩
  rw [← hX]
  have HX := hid hX
  clear hX
  have HVP := hid (fun q => valid_port (m := m) q)
  have HVN := hid (fun q => valid_names (m := m) q)
  have HVC := hid (fun q => valid_cook (m := m) q)
  have HVV := hid (fun (q0 : 1 ≤ m.port) (q1 : m.port ≤ 65535) (q2 : namesB m.names = true) (q3 : cookieOk m.cookie = true) => (show validM m = true from valid_of ⟨q0, q1⟩ q2 q3))
  have HB := hid (Blk.new w #[.int .i64 m.port, .slice a m.names.length c, .string m.cookie] 34)
  have HGET := hid (fun q => h.names.get q)
  obtain ⟨port, hport⟩ : ∃ p, p = m.port := ⟨_, rfl⟩
  rw [← hport] at HVP HVV pl pu HB HWR
  clear h ht
  unfold msgV
  rw [← hport]
  clear hport
  by_cases p1 : port < 1
  · have HF := hid (HVP.out (by omega))
    go_enter Tryz.func47, Tryz.ntmps47
    go_wp2
    go_ret
    exact ⟨ret_bool (by rw [HX.out, HF.out]), (Mod.refl _ _).alloc _⟩
  by_cases p2 : 65535 < port
  · have HF := hid (HVP.out (by omega))
    go_enter Tryz.func47, Tryz.ntmps47
    go_wp2
    go_ret
    exact ⟨ret_bool (by rw [HX.out, HF.out]), (Mod.refl _ _).alloc _⟩
  by_cases n0 : m.names.length < 1
  · have HF := hid (HVN.out (by unfold namesB; rw [decide_eq_false (show ¬ 1 ≤ m.names.length by omega), Bool.and_false, Bool.false_and]))
    have n0I : (m.names.length : Int) < 1 := by omega
    go_enter Tryz.func47, Tryz.ntmps47
    go_wp2
    go_ret
    exact ⟨ret_bool (by rw [HX.out, HF.out]), (Mod.refl _ _).alloc _⟩
  by_cases n1 : 20 < m.names.length
  · have HF := hid (HVN.out (by unfold namesB; rw [decide_eq_false (show ¬ m.names.length ≤ 20 by omega), Bool.and_false]))
    have n0I : ¬ (m.names.length : Int) < 1 := by omega
    have n1I : (20 : Int) < (m.names.length : Int) := by omega
    go_enter Tryz.func47, Tryz.ntmps47
    go_wp2
    go_ret
    exact ⟨ret_bool (by rw [HX.out, HF.out]), (Mod.refl _ _).alloc _⟩
  have n0I : ¬ (m.names.length : Int) < 1 := by omega
  have n1I : ¬ (20 : Int) < (m.names.length : Int) := by omega
  cases hc : cookieOk m.cookie with
  | false =>
    rw [hc] at HCK
    have HF := hid (HVC.out hc)
    clear hc
    go_enter Tryz.func47, Tryz.ntmps47
    go_wp2_with (go_at_call 80; refine (HCK.out _).mono ?_; rintro e w3 ⟨rfl, rfl⟩)
    go_ret
    exact ⟨ret_bool (by rw [HX.out, HF.out]), (Mod.refl _ _).alloc _⟩
  | true =>
    rw [hc] at HCK
    have HCT := hid hc
    clear hc
    obtain ⟨L, hL⟩ : ∃ L, L = m.names := ⟨_, rfl⟩
    rw [← hL] at HSM HVN HVV HGET n0 n1 n0I n1I hm1 HB HWR
    rw [← hL]
    obtain ⟨b1, o1, rfl, hb1, hc1⟩ := HGET.out (by omega)
    have HC1 := hid hc1
    have HNG := hid (fun q => nm_good (l := L) q)
    have HLL := hid hL
    clear hc1 hL
    go_enter Tryz.func47, Tryz.ntmps47
    go_wp2_with (go_at_call 80; refine (HCK.out _).mono ?_; rintro e w3 ⟨rfl, rfl⟩)
    have HN0 := hid ((Mod.refl _ w).alloc (.cells #[.int .i64 port, .slice (some ⟨b1, o1, none⟩) L.length c, .string m.cookie] 34) : New w _)
    go_loopw [34] (fun i wr => ∃ k : Nat, i = .int .i64 k ∧ k ≤ L.length ∧ (∀ j, j < k → nameAt L j = true) ∧ wr = w.alloc (.cells #[.int .i64 port, .slice (some ⟨b1, o1, none⟩) L.length c, .string m.cookie] 34)) (fun i _ => L.length - (intOf i).toNat)
    case atStart => exact ⟨0, rfl, by omega, by omega, rfl⟩
    case round =>
      obtain ⟨k, rfl, hk, hb, rfl⟩ := hrel
      have HNB := hid hb
      clear hb
      have d0 := HB.out.cellv 0 rfl; have d1 := HB.out.cellv 1 rfl; have d2 := HB.out.cellv 2 rfl; have d3 := HB.out.lt
      by_cases hlt : k < L.length
      · have hltI : (k : Int) < (L.length : Int) := by omega
        have hcc := HN0.out.cellv (HC1.out k hlt)
        have hsz0 := HSM.out L[k] (List.getElem_mem _)
        by_cases hsz : L[k].size = 20
        · have hne : decide (L[k].size = 20) = true := decide_eq_true hsz
          rcases Nat.eq_zero_or_pos k with h0 | h0
          · subst h0
            rw [Nat.add_zero] at hcc
            have HE := hid (show nameAt L 0 = true by rw [nameAt_zero hlt]; simpa using hsz)
            have hnm := HNM.out L[0] hsz0
            rw [hne] at hnm
            have HNM0 := hid hnm
            clear hsz hnm hne
            go_wp2_with (go_at_call 55; refine (HNM0.out _).mono ?_; rintro e w2 ⟨rfl, rfl⟩)
            exact ⟨⟨1, by simp, by omega, fun j hj => by (obtain rfl : j = 0 := by omega); exact HE.out, trivial⟩, by simp [intOf]; omega⟩
          · obtain ⟨i, rfl⟩ : ∃ i, k = i + 1 := ⟨k - 1, by omega⟩
            have hp := HN0.out.cellv (HC1.out i (by omega))
            have hpi : ((i + 1 : Nat) : Int) - 1 = (i : Int) := by omega
            have h0I : (0 : Int) < ((i + 1 : Nat) : Int) := by omega
            have HNA := hid (nameAt_succ hlt)
            have hnm := HNM.out L[i + 1] hsz0
            rw [hne] at hnm
            have HNM0 := hid hnm
            obtain ⟨S, hS⟩ : ∃ S, S = L[i + 1] := ⟨_, rfl⟩
            obtain ⟨R, hR⟩ : ∃ R, R = L[i] := ⟨_, rfl⟩
            rw [← hS, ← hR] at HNA
            rw [← hS] at hcc hsz hsz0 HNM0
            rw [← hR] at hp
            clear hS hR hnm hne
            cases hbl : Op.bytesLess R.toList S.toList with
            | true =>
              have HE := hid (show nameAt L (i + 1) = true by rw [HNA.out, hbl]; simpa using hsz)
              clear hsz
              go_wp2_with (go_at_call 55; refine (HNM0.out _).mono ?_; rintro e w2 ⟨rfl, rfl⟩)
              exact ⟨⟨i + 2, by simp; omega, by omega, fun j hj => by rcases Nat.lt_succ_iff_lt_or_eq.1 hj with h | h; exact HNB.out j h; subst h; exact HE.out, trivial⟩, by simp [intOf]; omega⟩
            | false =>
              have HF := hid (HVN.out (nm_bad hlt (by rw [HNA.out, hbl, Bool.and_false])))
              clear hsz
              go_wp2_with (go_at_call 55; refine (HNM0.out _).mono ?_; rintro e w2 ⟨rfl, rfl⟩)
              go_ret
              exact ⟨ret_bool (by rw [HX.out, HF.out]), HN0.out⟩
        · have hne : decide (L[k].size = 20) = false := decide_eq_false hsz
          have hbad : nameAt L k = false := by
            unfold nameAt
            rw [List.getElem?_eq_getElem hlt]
            simp only [decide_eq_false hsz, Bool.false_and]
          have HF := hid (HVN.out (nm_bad hlt hbad))
          have hnm := HNM.out L[k] hsz0
          rw [hne] at hnm
          have HNM0 := hid hnm
          clear hsz hbad hnm hne
          go_wp2_with (go_at_call 55; refine (HNM0.out _).mono ?_; rintro e w2 ⟨rfl, rfl⟩)
          go_ret
          exact ⟨ret_bool (by rw [HX.out, HF.out]), HN0.out⟩
      · have hnt : namesB L = true := by
          rw [HNG.out (fun j hj => HNB.out j (by omega))]
          simp only [Bool.and_eq_true, decide_eq_true_eq]
          omega
        have hvt := HVV.out (by omega) (by omega) hnt HCT.out
        have HT := hid hvt
        have hsz : (mkB (writtenL m)).size ≤ 1400 := by rw [mkB_size]; exact HWL.out hvt
        have hszI : ((mkB (writtenL m)).size : Int) ≤ 1400 := by omega
        have HW2 := hid (HWR.out hvt _ HN0.out)
        clear hnt hvt
        go_wp2_with (go_at_call 48; refine HW2.out.mono ?_; rintro e w4 ⟨rfl, n4⟩; have N4 := hid n4; clear n4)
        go_ret
        exact ⟨ret_bool (by rw [HX.out, HT.out]), HN0.out.trans N4.out⟩
set_option maxRecDepth 100000 in
set_option maxHeartbeats 4000000 in
theorem rFormat_any (m : MsgV) (a : Option Addr) (c : Nat) (w : World) (h : MsgAt w a c m) (ht : Tab w) : Calls Tryz.prog 22 #[msgV a c m] w fun e w' => e = .returned (.tuple #[.string (fmtB m), .int .i64 (fmtE m)]) ∧ New w w' := by
  have HV := hid (fun W (n : New w W) => rValid_any m a c W (h.new n) (ht.new n))
  have HWR := hid (fun (hv : validM m = true) W (n : New w W) => text_any m a c W hv (h.names.new n) (ht.new n))
  have HB := hid (Blk.new w #[.int .i64 m.port, .slice a m.names.length c, .string m.cookie] 34)
  clear h ht
  cases hv : validM m with
  | true =>
    rw [hv] at HV
    have HWR := hid (HWR.out hv)
    have HR := hid (show fmtB m = mkB (writtenL m) ∧ fmtE m = 0 by unfold fmtB fmtE; rw [hv]; exact ⟨rfl, rfl⟩)
    clear hv
    go_enter Tryz.func22, Tryz.ntmps22
    go_wp2_with fail
    refine (HV.out _ ((Mod.refl _ _).alloc _)).mono ?_
    rintro e w1 ⟨rfl, n1⟩
    have N1 := hid (((Mod.refl _ w).alloc (.cells #[.int .i64 m.port, .slice a m.names.length c, .string m.cookie] 34)).trans n1 : New w w1)
    have B1 := hid (n1.blk HB.out)
    clear n1
    have d0 := B1.out.cellv 0 rfl; have d1 := B1.out.cellv 1 rfl; have d2 := B1.out.cellv 2 rfl; have d3 := B1.out.lt
    go_wp2_with fail
    refine (HWR.out _ N1.out).mono ?_
    rintro e w2 ⟨rfl, n2⟩
    have N2 := hid (N1.out.trans n2)
    clear n2
    go_wp2
    go_ret2
    exact ⟨ret_fmt HR.out.1.symm HR.out.2.symm, N2.out⟩
  | false =>
    rw [hv] at HV
    have HR := hid (show fmtB m = ⟨#[]⟩ ∧ fmtE m = 1 by unfold fmtB fmtE; rw [hv]; exact ⟨rfl, rfl⟩)
    clear hv
    go_enter Tryz.func22, Tryz.ntmps22
    go_wp2_with fail
    refine (HV.out _ ((Mod.refl _ _).alloc _)).mono ?_
    rintro e w1 ⟨rfl, n1⟩
    have N1 := hid (((Mod.refl _ w).alloc (.cells #[.int .i64 m.port, .slice a m.names.length c, .string m.cookie] 34)).trans n1 : New w w1)
    clear n1
    go_wp2
    go_ret2
    exact ⟨ret_fmt HR.out.1.symm HR.out.2.symm, N1.out⟩
end Go.Proofs.YtnflhjagmngimaaGreatDoor
