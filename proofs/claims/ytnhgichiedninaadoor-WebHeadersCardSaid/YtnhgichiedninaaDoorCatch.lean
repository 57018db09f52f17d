/-
  The closure that Wrong defers: a frame that returns; a frame that panics with a list's first fault. Conditions: the two results' boxes lie as told.
-/
import Derived.Test.YtnhgichiedninaaDoorFile
import Derived.Defers
import Derived.Recover
namespace Go.Proofs.YtnhgichiedninaaDoor
set_option linter.unusedSimpArgs false
set_option linter.unusedVariables false
open Go.RowKit

theorem catch_idle (p q : Addr) (w : World) :
    CallsD Tryd.prog 58 #[.pointer (some p), .pointer (some q)] .returning w fun e u' w' => e = .returned (.tuple #[]) ∧ u' = .returning ∧ w' = w := by
  refine callsD_of_wpS Tryd.func58 rfl fun c₀ cs hu => ?_
  apply wpS_seq
  apply wpS_region
  simp [wpOpsS, go_sem, recoverD, hu, Tryd.ntmps58, Exit.thenS]
  apply wpS_seq
  refine wpS_of_wp ?_
  go_wp2
  refine wpS_cond (t := false) (by simp [Act.eval, Array.replicate]) ?_
  simp only [Bool.false_eq_true, if_false]
  refine wpS_of_wp (wp_skip ?_)
  cases c₀
  simp_all [bodyPostS, results, Tryd.results58]

set_option maxRecDepth 100000 in
set_option maxHeartbeats 1000000 in
theorem catch_told (p q : Nat) (i er : Int) (w : World) (hp : Blk w p #[.int .i64 0] 3) (hq : Blk w q #[.int .i64 0] 24) (hne : p ≠ q) :
    CallsD Tryd.prog 58 #[.pointer (some ⟨p, 0, none⟩), .pointer (some ⟨q, 0, none⟩)] (.panicking (told i er)) w fun e u' w' =>
      e = .returned (.tuple #[]) ∧ u' = .panicking [{ v := .iface 79 (.agg #[.int .i64 i, .int .i64 er]), recovered := true }] ∧ Blk w' p #[.int .i64 i] 3 ∧ Blk w' q #[.int .i64 er] 24 ∧ Mod (fun k => k = p ∨ k = q) w w' := by
  obtain ⟨p1, p2, p3⟩ := hp.one
  obtain ⟨q1, q2, q3⟩ := hq.one
  have HP := hid hp; have HQ := hid hq
  clear hp hq
  unfold told
  have hta : ∀ (x y : Int) (w : World), (Instr.typeAssert (.iface 79 (.agg #[.int .i64 x, .int .i64 y])) 20 79 true).run Tryd.prog w = .ok (.tuple #[.agg #[.int .i64 x, .int .i64 y], .bool true]) w := fun _ _ _ => by simp [Instr.typeAssert, run_underlying Tryd.underlying79, Result.andThen]
  refine callsD_of_wpS Tryd.func58 rfl fun c₀ cs hu => ?_
  apply wpS_seq
  apply wpS_region
  simp [wpOpsS, go_sem, recoverD, hu, Tryd.ntmps58, Exit.thenS, show Array.replicate 18 undef = #[undef, undef, undef, undef, undef, undef, undef, undef, undef, undef, undef, undef, undef, undef, undef, undef, undef, undef] from rfl]
  apply wpS_seq
  refine wpS_of_wp ?_
  go_wp2
  refine wpS_cond (t := true) (by simp [Act.eval, Array.replicate]) ?_
  simp only [if_true]
  refine wpS_of_wp ?_
  go_wp2
  go_region
  refine ⟨rfl, .panicking [{ v := .iface 79 (.agg #[.int .i64 i, .int .i64 er]), recovered := true }], ?_, .tuple #[], by simp [results, Tryd.results58], rfl, rfl, ?_, ?_, ?_⟩
  · first | rfl | (simp; done) | (cases c₀; simp_all)
  · apply Blk.row
    · repeat (first | with_reducible exact HP.out | (with_reducible apply Blk.newAt; (simp; done)) | with_reducible apply Blk.alloc | with_reducible apply Blk.drew | with_reducible apply Blk.drewN | with_reducible apply Blk.set | (with_reducible apply Blk.other; · first | (simp; done) | (simp; omega) | omega) | (with_reducible apply Blk.putObj; · first | (simp; done) | (simp; omega) | omega))
    · rfl
  · apply Blk.row
    · repeat (first | with_reducible exact HQ.out | (with_reducible apply Blk.newAt; (simp; done)) | with_reducible apply Blk.alloc | with_reducible apply Blk.drew | with_reducible apply Blk.drewN | with_reducible apply Blk.set | (with_reducible apply Blk.other; · first | (simp; done) | (simp; omega) | omega) | (with_reducible apply Blk.putObj; · first | (simp; done) | (simp; omega) | omega))
    · rfl
  · repeat (first | with_reducible exact Mod.refl _ _ | with_reducible refine Mod.alloc ?_ _ | with_reducible refine Mod.drew ?_ | with_reducible refine Mod.drewN ?_ _ | (with_reducible refine Mod.set ?_ _ _ (by first | exact .inl rfl | (right; omega) | (right; simp; done) | (right; simp; omega) | (left; omega) | (left; simp; done) | (left; simp; omega))) | (with_reducible refine Mod.putObj ?_ _ _ (by first | exact .inl rfl | (right; omega) | (right; simp; done) | (right; simp; omega) | (left; omega) | (left; simp; done) | (left; simp; omega))))
end Go.Proofs.YtnhgichiedninaaDoor
