/-
  Several texts in one, in their build order. (*check).file: whatever the file. Conditions: the check's two sets and the file lie as told; the sum so far is within the bound. The closure that Wrong defers: a frame that returns; a frame that panics with a list's first fault. Conditions: the two results' boxes lie as told.
-/
import Derived.Test.YtnccfikimmolgaaGreatDoorM10
import Derived.Test.YtnccfikimmolgaaGreatDoorM11
import Derived.Test.YtnccfikimmolgaaGreatDoorM12
import Derived.Test.YtnccfikimmolgaaGreatDoorM15
import Derived.Test.YtnccfikimmolgaaGreatDoorM9
import Derived.Defers
import Derived.Recover
namespace Go.Proofs.YtnccfikimmolgaaGreatDoor
set_option linter.unusedSimpArgs false
set_option linter.unusedVariables false
open Go.RowKit

theorem err_name {M A : List ByteArray} {tot : Int} {i last : Nat} {f : FileV} (h : badName f = true) : errA M A tot i last f = some 5 := by simp [errA, h]
theorem err_range {M A : List ByteArray} {tot : Int} {i last : Nat} {f : FileV} (h : badName f = false) (h2 : badRange f = true) : errA M A tot i last f = some 7 := by simp [errA, h, h2]
theorem err_dup {M A : List ByteArray} {tot : Int} {i last : Nat} {f : FileV} (h : badName f = false) (h2 : badRange f = false) (h3 : dupA M A f = true) : errA M A tot i last f = some 6 := by simp [errA, h, h2, h3]
theorem err_state {M A : List ByteArray} {tot : Int} {i last : Nat} {f : FileV} (h : badName f = false) (h2 : badRange f = false) (h3 : dupA M A f = false) (h4 : badState i last f = true) : errA M A tot i last f = some 9 := by simp [errA, h, h2, h3, h4]
theorem err_size {M A : List ByteArray} {tot : Int} {i last : Nat} {f : FileV} (h : badName f = false) (h2 : badRange f = false) (h3 : dupA M A f = false) (h4 : badState i last f = false) (h5 : 65536 < tot + f.len) : errA M A tot i last f = some 11 := by simp [errA, h, h2, h3, h4, h5]
theorem err_none {M A : List ByteArray} {tot : Int} {i last : Nat} {f : FileV} (h : badName f = false) (h2 : badRange f = false) (h3 : dupA M A f = false) (h4 : badState i last f = false) (h5 : ¬ 65536 < tot + f.len) : errA M A tot i last f = none := by simp [errA, h, h2, h3, h4, h5]

theorem file_any (b bm ba : Nat) (i last : Nat) (tot : Int) (pa : Option Addr) (pc : Nat) (f : FileV) (M A : List ByteArray) (w : World) (h : Ask w b bm ba pa pc f tot M A) (ht : 0 ≤ tot ∧ tot ≤ 65536) :
    Calls Tryz.prog 77 #[.pointer (some ⟨b, 0, none⟩), .int .i64 i, .int .i64 last, fileV pa pc f] w (Fin w b bm ba i f tot M A (errA M A tot i last f)) := by
  by_cases n1 : 1 ≤ f.path.length
  · by_cases n2 : f.path.length ≤ 8
    · cases n3 : f.path.all partOk with
      | false =>
        rw [err_name (by simp only [badName, named, n3]; simp)]
        exact file_name3 b bm ba i last tot pa pc f M A w h n1 n2 n3
      | true =>
        have hn : named f = true := by simp only [named, n3]; simp [n1, n2]
        cases hp : f.pad with
        | true =>
          by_cases h4 : f.path = padPath f.len
          · have b1 : badName f = false := by simp only [badName, hn, hp, decide_eq_true h4]; rfl
            have hd : dupA M A f = false := by simp [dupA, hp]
            by_cases r1 : f.len < 0
            · rw [err_range b1 (by simp [badRange, r1])]
              exact file_range1p b bm ba i last tot pa pc f M A w h n1 n2 n3 hp h4 (decide_eq_true r1)
            · by_cases r2 : 65536 < f.len
              · rw [err_range b1 (by simp [badRange, r2])]
                exact file_range2p b bm ba i last tot pa pc f M A w h n1 n2 n3 hp h4 (decide_eq_false r1) (decide_eq_true r2)
              · by_cases r3 : f.len < 1
                · rw [err_range b1 (by simp [badRange, r3, hp])]
                  exact file_range3 b bm ba i last tot pa pc f M A w h n1 n2 n3 hp h4 (decide_eq_false r1) (decide_eq_false r2) (decide_eq_true r3)
                · have b2 : badRange f = false := by simp only [badRange, decide_eq_false r1, decide_eq_false r2, decide_eq_false r3, hp]; rfl
                  by_cases s1 : i = 0
                  · rw [err_state b1 b2 hd (by simp [badState, s1, hp])]
                    exact file_state1 b bm ba i last tot pa pc f M A w h n1 n2 n3 hp h4 (decide_eq_false r1) (decide_eq_false r2) (decide_eq_false r3) (by simp [s1])
                  · by_cases s2 : i = last
                    · rw [err_state b1 b2 hd (by simp [badState, s2, hp])]
                      exact file_state2 b bm ba i last tot pa pc f M A w h n1 n2 n3 hp h4 (decide_eq_false r1) (decide_eq_false r2) (decide_eq_false r3) (by simpa using s1) (by simp [s2])
                    · have b4 : badState i last f = false := by simp [badState, s1, s2]
                      by_cases z : 65536 < tot + f.len
                      · rw [err_size b1 b2 hd b4 z]
                        exact file_padsize b bm ba i last tot pa pc f M A w h n1 n2 n3 hp h4 (decide_eq_false r1) (decide_eq_false r2) (decide_eq_false r3) (by simpa using s1) (by simp; omega) ht.1 ht.2 (by omega) (by omega) (decide_eq_true z)
                      · rw [err_none b1 b2 hd b4 z]
                        exact file_pad b bm ba i last tot pa pc f M A w h n1 n2 n3 hp h4 (decide_eq_false r1) (decide_eq_false r2) (decide_eq_false r3) (by simpa using s1) (by simp; omega) ht.1 ht.2 (by omega) (by omega) (decide_eq_false z)
          · rw [err_name (by simp only [badName, hp, decide_eq_false h4]; simp)]
            exact file_name4 b bm ba i last tot pa pc f M A w h n1 n2 n3 hp h4
        | false =>
          obtain ⟨p0, hp0⟩ : ∃ p0, f.path.head? = some p0 := by
            cases hq : f.path with
            | nil => simp [hq] at n1
            | cons x r => exact ⟨x, rfl⟩
          have hh : decide (f.path.head? = some dotpad) = (p0.toList == [46, 112, 97, 100]) := by
            rw [lit_eq, hp0, Bool.eq_iff_iff]
            simp [dotpad]
          cases hq : p0.toList == [46, 112, 97, 100] with
          | true =>
            rw [err_name (by simp only [badName, hn, hp, hh, hq]; rfl)]
            exact file_name5 b bm ba i last tot pa pc f M A w h n1 n2 n3 hp ⟨p0, hp0, hq⟩
          | false =>
            have b1 : badName f = false := by simp only [badName, hn, hp, hh, hq]; rfl
            by_cases r1 : f.len < 0
            · rw [err_range b1 (by simp [badRange, r1])]
              exact file_range1n b bm ba i last tot pa pc f M A w h n1 n2 n3 hp ⟨p0, hp0, hq⟩ (decide_eq_true r1)
            · by_cases r2 : 65536 < f.len
              · rw [err_range b1 (by simp [badRange, r2])]
                exact file_range2n b bm ba i last tot pa pc f M A w h n1 n2 n3 hp ⟨p0, hp0, hq⟩ (decide_eq_false r1) (decide_eq_true r2)
              · have b2 : badRange f = false := by simp only [badRange, decide_eq_false r1, decide_eq_false r2, hp]; rfl
                have b4 : badState i last f = false := by simp [badState, hp]
                cases d1 : hasB M (joinB f.path) with
                | true =>
                  rw [err_dup b1 b2 (by simp [dupA, hp, d1])]
                  exact file_dup1 b bm ba i last tot pa pc f M A w h n1 n2 n3 hp ⟨p0, hp0, hq⟩ (decide_eq_false r1) (decide_eq_false r2) d1
                | false =>
                  cases d2 : hasB A (joinB f.path) with
                  | true =>
                    rw [err_dup b1 b2 (by simp [dupA, hp, d2])]
                    exact file_dup2 b bm ba i last tot pa pc f M A w h n1 n2 n3 hp ⟨p0, hp0, hq⟩ (decide_eq_false r1) (decide_eq_false r2) d1 d2
                  | false =>
                    cases d3 : (heads f.path (f.path.length - 1)).any (hasB M) with
                    | true =>
                      rw [err_dup b1 b2 (by simp only [dupA, hp, d1, d2, d3]; rfl)]
                      exact file_dup3 b bm ba i last tot pa pc f M A w h n1 n2 n3 hp ⟨p0, hp0, hq⟩ (decide_eq_false r1) (decide_eq_false r2) d1 d2 d3
                    | false =>
                      have hd : dupA M A f = false := by simp only [dupA, hp, d1, d2, d3]; rfl
                      by_cases z : 65536 < tot + f.len
                      · rw [err_size b1 b2 hd b4 z]
                        exact file_plain b bm ba i last tot pa pc f M A w h n1 n2 n3 hp ⟨p0, hp0, hq⟩ (decide_eq_false r1) (decide_eq_false r2) d1 d2 d3 ht.1 ht.2 (by omega) (by omega) (some 11) (.inl ⟨decide_eq_true z, rfl⟩)
                      · rw [err_none b1 b2 hd b4 z]
                        exact file_plain b bm ba i last tot pa pc f M A w h n1 n2 n3 hp ⟨p0, hp0, hq⟩ (decide_eq_false r1) (decide_eq_false r2) d1 d2 d3 ht.1 ht.2 (by omega) (by omega) none (.inr ⟨decide_eq_false z, rfl⟩)
    · rw [err_name (by simp [badName, named, n2])]
      exact file_name2 b bm ba i last tot pa pc f M A w h (by omega)
  · rw [err_name (by simp only [badName, named, decide_eq_false n1]; simp)]
    exact file_name1 b bm ba i last tot pa pc f M A w h (by omega)
end Go.Proofs.YtnccfikimmolgaaGreatDoor

namespace Go.Proofs.YtnccfikimmolgaaGreatDoor
set_option linter.unusedSimpArgs false
set_option linter.unusedVariables false
open Go.RowKit

theorem catch_idle (p q : Addr) (w : World) :
    CallsD Tryz.prog 76 #[.pointer (some p), .pointer (some q)] .returning w fun e u' w' => e = .returned (.tuple #[]) ∧ u' = .returning ∧ w' = w := by
  refine callsD_of_wpS Tryz.func76 rfl fun c₀ cs hu => ?_
  apply wpS_seq
  apply wpS_region
  simp [wpOpsS, go_sem, recoverD, hu, Tryz.ntmps76, Exit.thenS]
  apply wpS_seq
  refine wpS_of_wp ?_
  go_wp2
  refine wpS_cond (t := false) (by simp [Act.eval, Array.replicate]) ?_
  simp only [Bool.false_eq_true, if_false]
  refine wpS_of_wp (wp_skip ?_)
  cases c₀
  simp_all [bodyPostS, results, Tryz.results76]

set_option maxRecDepth 100000 in
set_option maxHeartbeats 1000000 in
theorem catch_told (p q : Nat) (i er : Int) (w : World) (hp : Blk w p #[.int .i64 0] 3) (hq : Blk w q #[.int .i64 0] 26) (hne : p ≠ q) :
    CallsD Tryz.prog 76 #[.pointer (some ⟨p, 0, none⟩), .pointer (some ⟨q, 0, none⟩)] (.panicking (told i er)) w fun e u' w' =>
      e = .returned (.tuple #[]) ∧ u' = .panicking [{ v := .iface 117 (.agg #[.int .i64 i, .int .i64 er]), recovered := true }] ∧ Blk w' p #[.int .i64 i] 3 ∧ Blk w' q #[.int .i64 er] 26 ∧ Mod (fun k => k = p ∨ k = q) w w' := by
  obtain ⟨p1, p2, p3⟩ := hp.one
  obtain ⟨q1, q2, q3⟩ := hq.one
  have HP := hid hp; have HQ := hid hq
  clear hp hq
  unfold told
  have hta : ∀ (x y : Int) (w : World), (Instr.typeAssert (.iface 117 (.agg #[.int .i64 x, .int .i64 y])) 20 117 true).run Tryz.prog w = .ok (.tuple #[.agg #[.int .i64 x, .int .i64 y], .bool true]) w := fun _ _ _ => by simp [Instr.typeAssert, run_underlying Tryz.underlying117, Result.andThen]
  refine callsD_of_wpS Tryz.func76 rfl fun c₀ cs hu => ?_
  apply wpS_seq
  apply wpS_region
  simp [wpOpsS, go_sem, recoverD, hu, Tryz.ntmps76, Exit.thenS, show Array.replicate 18 undef = #[undef, undef, undef, undef, undef, undef, undef, undef, undef, undef, undef, undef, undef, undef, undef, undef, undef, undef] from rfl]
  apply wpS_seq
  refine wpS_of_wp ?_
  go_wp2
  refine wpS_cond (t := true) (by simp [Act.eval, Array.replicate]) ?_
  simp only [if_true]
  refine wpS_of_wp ?_
  go_wp2
  go_region
  refine ⟨rfl, .panicking [{ v := .iface 117 (.agg #[.int .i64 i, .int .i64 er]), recovered := true }], ?_, .tuple #[], by simp [results, Tryz.results76], rfl, rfl, ?_, ?_, ?_⟩
  · first | rfl | (simp; done) | (cases c₀; simp_all)
  · apply Blk.row
    · repeat (first | with_reducible exact HP.out | (with_reducible apply Blk.newAt; (simp; done)) | with_reducible apply Blk.alloc | with_reducible apply Blk.drew | with_reducible apply Blk.drewN | with_reducible apply Blk.set | (with_reducible apply Blk.other; · first | (simp; done) | (simp; omega) | omega) | (with_reducible apply Blk.putObj; · first | (simp; done) | (simp; omega) | omega))
    · rfl
  · apply Blk.row
    · repeat (first | with_reducible exact HQ.out | (with_reducible apply Blk.newAt; (simp; done)) | with_reducible apply Blk.alloc | with_reducible apply Blk.drew | with_reducible apply Blk.drewN | with_reducible apply Blk.set | (with_reducible apply Blk.other; · first | (simp; done) | (simp; omega) | omega) | (with_reducible apply Blk.putObj; · first | (simp; done) | (simp; omega) | omega))
    · rfl
  · repeat (first | with_reducible exact Mod.refl _ _ | with_reducible refine Mod.alloc ?_ _ | with_reducible refine Mod.drew ?_ | with_reducible refine Mod.drewN ?_ _ | (with_reducible refine Mod.set ?_ _ _ (by first | exact .inl rfl | (right; omega) | (right; simp; done) | (right; simp; omega) | (left; omega) | (left; simp; done) | (left; simp; omega))) | (with_reducible refine Mod.putObj ?_ _ _ (by first | exact .inl rfl | (right; omega) | (right; simp; done) | (right; simp; omega) | (left; omega) | (left; simp; done) | (left; simp; omega))))
end Go.Proofs.YtnccfikimmolgaaGreatDoor
