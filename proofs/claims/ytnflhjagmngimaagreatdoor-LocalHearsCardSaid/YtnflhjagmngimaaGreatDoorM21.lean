/-
  Several texts in one, in their build order. The closure that Parse defers: a frame that returns; a frame that panics with a line's number. Conditions: the three results' boxes lie as told.
-/
import Derived.Test.YtnflhjagmngimaaGreatDoorM20
import Derived.Defers
import Derived.Recover
namespace Go.Proofs.YtnflhjagmngimaaGreatDoor
set_option linter.unusedSimpArgs false
set_option linter.unusedVariables false
open Go.RowKit

theorem lcatch_idle (p q r : Addr) (w : World) :
    CallsD Tryz.prog 82 #[.pointer (some p), .pointer (some q), .pointer (some r)] .returning w fun e u' w' => e = .returned (.tuple #[]) ∧ u' = .returning ∧ w' = w := by
  refine callsD_of_wpS Tryz.func82 rfl fun c₀ cs hu => ?_
  apply wpS_seq
  apply wpS_region
  simp [wpOpsS, go_sem, recoverD, hu, Tryz.ntmps82, Exit.thenS, show Array.replicate 15 undef = #[undef, undef, undef, undef, undef, undef, undef, undef, undef, undef, undef, undef, undef, undef, undef] from rfl]
  refine wpS_of_wp ?_
  go_wp2
  cases c₀
  simp_all [bodyPostS, results, Tryz.results82]
set_option maxRecDepth 100000 in
set_option maxHeartbeats 2000000 in
theorem lcatch_told (p q r : Nat) (i : Int) (w : World) (hp : Blk w p #[.int .i64 0, .slice none 0 0, .string ⟨#[]⟩] 34) (hq : Blk w q #[.int .i64 0] 3) (hr : Blk w r #[.int .i64 0] 25) (hpq : p ≠ q) (hpr : p ≠ r) (hqr : q ≠ r) :
    CallsD Tryz.prog 82 #[.pointer (some ⟨p, 0, none⟩), .pointer (some ⟨q, 0, none⟩), .pointer (some ⟨r, 0, none⟩)] (.panicking (toldL i)) w fun e u' w' =>
      e = .returned (.tuple #[]) ∧ u' = .panicking [{ v := .iface 121 (.agg #[.int .i64 i]), recovered := true }] ∧ Blk w' p #[.int .i64 0, .slice none 0 0, .string ⟨#[]⟩] 34 ∧ Blk w' q #[.int .i64 i] 3 ∧ Blk w' r #[.int .i64 2] 25 ∧ Mod (fun k => k = p ∨ k = q ∨ k = r) w w' := by
  have HP := hid hp; have HQ := hid hq; have HR := hid hr
  have p0 := hp.cellv 0 rfl; have p1 := hp.cellv 1 rfl; have p2 := hp.cellv 2 rfl; have p3 := hp.lt; have p4 := hp.frz
  obtain ⟨q1, q2, q3⟩ := hq.one
  obtain ⟨r1, r2, r3⟩ := hr.one
  clear hp hq hr
  unfold toldL
  have hta : ∀ (x : Int) (w : World), (Instr.typeAssert (.iface 121 (.agg #[.int .i64 x])) 20 121 true).run Tryz.prog w = .ok (.tuple #[.agg #[.int .i64 x], .bool true]) w := fun _ _ => by simp [Instr.typeAssert, run_underlying Tryz.underlying121, Result.andThen]
  refine callsD_of_wpS Tryz.func82 rfl fun c₀ cs hu => ?_
  apply wpS_seq
  apply wpS_region
  simp [wpOpsS, go_sem, recoverD, hu, Tryz.ntmps82, Exit.thenS, show Array.replicate 15 undef = #[undef, undef, undef, undef, undef, undef, undef, undef, undef, undef, undef, undef, undef, undef, undef] from rfl, show Array.replicate 12 undef = #[undef, undef, undef, undef, undef, undef, undef, undef, undef, undef, undef, undef] from rfl]
  refine wpS_of_wp ?_
  go_wp2
  go_region
  go_wp2
  refine ⟨rfl, .panicking [{ v := .iface 121 (.agg #[.int .i64 i]), recovered := true }], ?_, .tuple #[], by simp [results, Tryz.results82], rfl, rfl, ?_, ?_, ?_, ?_⟩
  · first | rfl | (simp; done) | (cases c₀; simp_all)
  · apply Blk.row
    · repeat (first | with_reducible exact HP.out | (with_reducible apply Blk.newAt; (simp; done)) | with_reducible apply Blk.alloc | with_reducible apply Blk.drew | with_reducible apply Blk.drewN | with_reducible apply Blk.set | (with_reducible apply Blk.other; · first | (simp; done) | (simp; omega) | omega) | (with_reducible apply Blk.putObj; · first | (simp; done) | (simp; omega) | omega))
    · rfl
  · apply Blk.row
    · repeat (first | with_reducible exact HQ.out | (with_reducible apply Blk.newAt; (simp; done)) | with_reducible apply Blk.alloc | with_reducible apply Blk.drew | with_reducible apply Blk.drewN | with_reducible apply Blk.set | (with_reducible apply Blk.other; · first | (simp; done) | (simp; omega) | omega) | (with_reducible apply Blk.putObj; · first | (simp; done) | (simp; omega) | omega))
    · rfl
  · apply Blk.row
    · repeat (first | with_reducible exact HR.out | (with_reducible apply Blk.newAt; (simp; done)) | with_reducible apply Blk.alloc | with_reducible apply Blk.drew | with_reducible apply Blk.drewN | with_reducible apply Blk.set | (with_reducible apply Blk.other; · first | (simp; done) | (simp; omega) | omega) | (with_reducible apply Blk.putObj; · first | (simp; done) | (simp; omega) | omega))
    · rfl
  · repeat (first | with_reducible exact Mod.refl _ _ | with_reducible refine Mod.alloc ?_ _ | with_reducible refine Mod.drew ?_ | with_reducible refine Mod.drewN ?_ _ | (with_reducible refine Mod.set ?_ _ _ (by first | exact .inl rfl | (right; omega) | (right; simp; done) | (right; simp; omega) | (left; omega) | (left; simp; done) | (left; simp; omega))) | (with_reducible refine Mod.putObj ?_ _ _ (by first | exact .inl rfl | (right; omega) | (right; simp; done) | (right; simp; omega) | (left; omega) | (left; simp; done) | (left; simp; omega))))
theorem ps_results (tmps : Array Value) (w : World) (p q r : Nat) (m0 m1 m2 : Value) (b c : Int) (hp : Blk w p #[m0, m1, m2] 34) (hq : Blk w q #[.int .i64 b] 3) (hr : Blk w r #[.int .i64 c] 25)
    (h2 : tmps.getD 2 undef = .pointer (some ⟨p, 0, none⟩)) (h3 : tmps.getD 3 undef = .pointer (some ⟨q, 0, none⟩)) (h4 : tmps.getD 4 undef = .pointer (some ⟨r, 0, none⟩)) :
    (results Tryz.f50 tmps).run Tryz.prog w = .ok (.tuple #[.agg #[m0, m1, m2], .int .i64 b, .int .i64 c]) w := by
  have p0 := hp.cellv 0 rfl; have p1 := hp.cellv 1 rfl; have p2 := hp.cellv 2 rfl
  obtain ⟨q1, -, -⟩ := hq.one
  obtain ⟨r1, -, -⟩ := hr.one
  have h2' : tmps[2]?.getD undef = .pointer (some ⟨p, 0, none⟩) := by simpa using h2
  have h3' : tmps[3]?.getD undef = .pointer (some ⟨q, 0, none⟩) := by simpa using h3
  have h4' : tmps[4]?.getD undef = .pointer (some ⟨r, 0, none⟩) := by simpa using h4
  simp [results, Tryz.results50, h2', h3', h4', asAddr, go_sem, p0, p1, p2, q1, r1, Result.andThen]
theorem StrsAt.far {S : Nat → Prop} {w w' : World} {a : Option Addr} {c : Nat} {p : List ByteArray} (h : StrsAt w a c p) (hm : Mod S w w') (hs : ∀ x, a = some x → ¬ S x.block) : StrsAt w' a c p := by
  refine ⟨h.room, h.cap, h.small, ?_⟩
  rcases h.at' with q | ⟨b, o, e, hb, hc⟩
  · exact .inl q
  · refine .inr ⟨b, o, e, Nat.lt_of_lt_of_le hb hm.size, fun i s hi => ?_⟩
    have := hc i s hi
    unfold World.cell? at this ⊢
    rw [hm.block b hb (hs _ e)]
    exact this
/-- What Parse answers. -/
def PsRes (t : ByteArray) (e : Ending) (w' : World) : Prop := match readP (linesC t.data.toList) with
  | .ok m => ∃ a c, e = .returned (.tuple #[msgV a c m, .int .i64 0, .int .i64 0]) ∧ StrsAt w' a c m.names
  | .error n => e = .returned (.tuple #[msgV none 0 ⟨0, [], ⟨#[]⟩⟩, .int .i64 n, .int .i64 2])
set_option maxRecDepth 100000 in
set_option maxHeartbeats 2000000 in
theorem Parse_long (t : ByteArray) (w : World) (hs : 1400 < t.size) (h2 : t.size ≤ maxLen) :
    Calls Tryz.prog 50 #[.string t] w fun e w' => e = .returned (.tuple #[msgV none 0 ⟨0, [], ⟨#[]⟩⟩, .int .i64 0, .int .i64 3]) ∧ New w w' := by
  have hsI : (1400 : Int) < (t.size : Int) := by omega
  unfold maxLen at h2
  clear hs
  go_enter_defers Tryz.func50, Tryz.ntmps50
  go_wp2
  exact ⟨_, ps_results _ _ w.heap.size (w.heap.size + 1) (w.heap.size + 1 + 1) _ _ _ _ _ (((Blk.new w _ _).alloc _).alloc _) ((Blk.newAt (by simp)).alloc _) (Blk.newAt (by simp)) rfl rfl rfl, rfl, (((Mod.refl _ _).alloc _).alloc _).alloc _⟩
set_option maxRecDepth 100000 in
set_option maxHeartbeats 4000000 in
theorem Parse_go (t : ByteArray) (w : World) (hv : VarsL w) (hs : t.size ≤ 1400) :
    Calls Tryz.prog 50 #[.string t] w fun e w' => PsRes t e w' ∧ New w w' := by
  have hmf : ∀ (fn : Fn) (first cap : Array Value) (w : World), (Instr.makeFunc fn first cap).run Tryz.prog w = .ok (.func fn first cap) w := fun _ _ _ _ => rfl
  have hsI : ¬ (1400 : Int) < (t.size : Int) := by omega
  have HRD := hid (fun W (n : New w W) => read_any t W (hv.new n) (by omega))
  clear hv hs
  unfold PsRes
  obtain ⟨res, hres⟩ : ∃ r, r = readP (linesC t.data.toList) := ⟨_, rfl⟩
  rw [← hres] at HRD ⊢
  clear hres
  have BP := hid (((Blk.new w #[.int .i64 0, .slice none 0 0, .string ⟨#[]⟩] 34).alloc (.cells #[.int .i64 0] 3)).alloc (.cells #[.int .i64 0] 25))
  have BQ := hid (((Blk.newAt (w := w.alloc (.cells #[.int .i64 0, .slice none 0 0, .string ⟨#[]⟩] 34)) (b := w.heap.size + 1) (cs := #[.int .i64 0]) (t := 3) (by simp)).alloc (.cells #[.int .i64 0] 25)))
  have BR := hid ((Blk.newAt (w := (w.alloc (.cells #[.int .i64 0, .slice none 0 0, .string ⟨#[]⟩] 34)).alloc (.cells #[.int .i64 0] 3)) (b := w.heap.size + 1 + 1) (cs := #[.int .i64 0]) (t := 25) (by simp)))
  have HNA := hid ((((Mod.refl _ w).alloc (.cells #[.int .i64 0, .slice none 0 0, .string ⟨#[]⟩] 34)).alloc (.cells #[.int .i64 0] 3)).alloc (.cells #[.int .i64 0] 25) : New w _)
  cases res with
  | error n =>
    go_enter_defers Tryz.func50, Tryz.ntmps50
    go_wp2_with fail
    refine (HRD.out _ HNA.out).mono ?_
    rintro e w1 ⟨rfl, n1⟩
    have P1 := n1.blk BP.out; have Q1 := n1.blk BQ.out; have R1 := n1.blk BR.out
    have NN := hid (HNA.out.trans n1)
    go_wp2
    refine leaves_cons (f := 82) (args := #[.pointer (some ⟨w.heap.size, 0, none⟩), .pointer (some ⟨w.heap.size + 1, 0, none⟩), .pointer (some ⟨w.heap.size + 1 + 1, 0, none⟩)]) (by simp) (by simp [go_sem]) ?_
    refine (lcatch_told w.heap.size (w.heap.size + 1) (w.heap.size + 1 + 1) n _ P1 Q1 R1 (by omega) (by omega) (by omega)).mono ?_
    rintro e u' w3 ⟨rfl, rfl, bp, bq, br, m3⟩
    exact ⟨_, ps_results _ _ w.heap.size (w.heap.size + 1) (w.heap.size + 1 + 1) _ _ _ _ _ bp bq br rfl rfl rfl, rfl, NN.out.trans' m3 (fun j q1 q2 => by omega)⟩
  | ok m =>
    go_enter_defers Tryz.func50, Tryz.ntmps50
    go_wp2_with fail
    refine (HRD.out _ HNA.out).mono ?_
    rintro e w1 ⟨⟨a, c, rfl, hst, hbb⟩, n1⟩
    have HBP := hid (n1.blk BP.out); have HBQ := hid (n1.blk BQ.out); have HBR := hid (n1.blk BR.out)
    have NN := hid (HNA.out.trans n1); have HST := hid hst
    have HBB : Hid (∀ x, a = some x → w.heap.size + 3 ≤ x.block) := hid (fun x hx => by have := hbb x hx; simpa using this)
    clear hbb
    have p0 := HBP.out.cellv 0 rfl; have p1 := HBP.out.cellv 1 rfl; have p2 := HBP.out.cellv 2 rfl; have p3 := HBP.out.lt; have p4 := HBP.out.frz
    obtain ⟨q1, q2, q3⟩ := HBQ.out.one
    obtain ⟨r1, r2, r3⟩ := HBR.out.one
    clear n1 hst
    go_wp2
    refine leaves_cons (f := 82) (args := #[.pointer (some ⟨w.heap.size, 0, none⟩), .pointer (some ⟨w.heap.size + 1, 0, none⟩), .pointer (some ⟨w.heap.size + 1 + 1, 0, none⟩)]) (by simp) (by simp [go_sem]) ?_
    refine (lcatch_idle ⟨w.heap.size, 0, none⟩ ⟨w.heap.size + 1, 0, none⟩ ⟨w.heap.size + 1 + 1, 0, none⟩ _).mono ?_
    rintro e u' w3 ⟨rfl, rfl, rfl⟩
    have b0 := (((((HBP.out.set 0 (.int .i64 m.port)).set 1 (.slice a m.names.length c)).set 2 (.string m.cookie)).other (p := ⟨w.heap.size + 1, 0, none⟩) (u := .int .i64 0) (by simp)).other (p := ⟨w.heap.size + 1 + 1, 0, none⟩) (u := .int .i64 0) (by simp; omega)).row (cs' := #[.int .i64 m.port, .slice a m.names.length c, .string m.cookie]) rfl
    have b1 : Blk ((((((w1.setCell ⟨w.heap.size, 0, none⟩ (.int .i64 m.port)).setCell ⟨w.heap.size, 1, none⟩ (.slice a m.names.length c)).setCell ⟨w.heap.size, 2, none⟩ (.string m.cookie)).setCell ⟨w.heap.size + 1, 0, none⟩ (.int .i64 0))).setCell ⟨w.heap.size + 1 + 1, 0, none⟩ (.int .i64 0)) (w.heap.size + 1) #[.int .i64 0] 3 := by
      apply Blk.row
      · repeat (first | with_reducible exact HBQ.out | (with_reducible apply Blk.newAt; (simp; done)) | with_reducible apply Blk.alloc | with_reducible apply Blk.drew | with_reducible apply Blk.drewN | with_reducible apply Blk.set | (with_reducible apply Blk.other; · first | (simp; done) | (simp; omega) | omega) | (with_reducible apply Blk.putObj; · first | (simp; done) | (simp; omega) | omega))
      · rfl
    have b2 : Blk ((((((w1.setCell ⟨w.heap.size, 0, none⟩ (.int .i64 m.port)).setCell ⟨w.heap.size, 1, none⟩ (.slice a m.names.length c)).setCell ⟨w.heap.size, 2, none⟩ (.string m.cookie)).setCell ⟨w.heap.size + 1, 0, none⟩ (.int .i64 0))).setCell ⟨w.heap.size + 1 + 1, 0, none⟩ (.int .i64 0)) (w.heap.size + 1 + 1) #[.int .i64 0] 25 := by
      apply Blk.row
      · repeat (first | with_reducible exact HBR.out | (with_reducible apply Blk.newAt; (simp; done)) | with_reducible apply Blk.alloc | with_reducible apply Blk.drew | with_reducible apply Blk.drewN | with_reducible apply Blk.set | (with_reducible apply Blk.other; · first | (simp; done) | (simp; omega) | omega) | (with_reducible apply Blk.putObj; · first | (simp; done) | (simp; omega) | omega))
      · rfl
    have hM : Mod (fun j => w.heap.size ≤ j ∧ j ≤ w.heap.size + 2) w1 ((((((w1.setCell ⟨w.heap.size, 0, none⟩ (.int .i64 m.port)).setCell ⟨w.heap.size, 1, none⟩ (.slice a m.names.length c)).setCell ⟨w.heap.size, 2, none⟩ (.string m.cookie)).setCell ⟨w.heap.size + 1, 0, none⟩ (.int .i64 0))).setCell ⟨w.heap.size + 1 + 1, 0, none⟩ (.int .i64 0)) :=
      (((((Mod.refl _ w1).set _ _ (.inl (by dsimp only; omega))).set _ _ (.inl (by dsimp only; omega))).set _ _ (.inl (by dsimp only; omega))).set _ _ (.inl (by dsimp only; omega))).set _ _ (.inl (by dsimp only; omega))
    have hst2 := HST.out.far hM (fun x hx q => by have := HBB.out x hx; omega)
    exact ⟨_, ps_results _ _ w.heap.size (w.heap.size + 1) (w.heap.size + 1 + 1) _ _ _ _ _ b0 b1 b2 rfl rfl rfl, ⟨a, c, rfl, hst2⟩, NN.out.trans' hM (fun j q1 q2 => by omega)⟩
end Go.Proofs.YtnflhjagmngimaaGreatDoor
