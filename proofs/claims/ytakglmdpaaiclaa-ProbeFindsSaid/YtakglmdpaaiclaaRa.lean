/-
  The walks of the reference's search: Right, New, settle, at, Next, told. Conditions: the search keeps the bounds of 'St.Ok'.
-/
import Derived.Test.YtakglmdpaaiclaaBase
import Derived.Test.YtakglmdpaaiclaaModel
namespace Go.Proofs.Ytakglmdpaaiclaa
open Go.RowKit

def rrow (s : St) : Array Value := #[.int .i64 s.low, .int .i64 s.high, .int .i64 s.top, .bool s.over, .int .i64 s.since, .int .i64 s.now, .int .i64 s.size, .int .i64 s.count, .int .i64 s.lost, .int .i64 s.asked]
/-- The reference's search s lies in block b. -/
abbrev RB (w : World) (b : Nat) (s : St) : Prop := Blk w b (rrow s) 61

theorem rrow_cells {w : World} {b : Nat} {s : St} (h : RB w b s) :
    w.cell? ⟨b, 0, none⟩ = some (.int .i64 s.low) ∧ w.cell? ⟨b, 1, none⟩ = some (.int .i64 s.high) ∧ w.cell? ⟨b, 2, none⟩ = some (.int .i64 s.top) ∧ w.cell? ⟨b, 3, none⟩ = some (.bool s.over) ∧
    w.cell? ⟨b, 4, none⟩ = some (.int .i64 s.since) ∧ w.cell? ⟨b, 5, none⟩ = some (.int .i64 s.now) ∧ w.cell? ⟨b, 6, none⟩ = some (.int .i64 s.size) ∧ w.cell? ⟨b, 7, none⟩ = some (.int .i64 s.count) ∧
    w.cell? ⟨b, 8, none⟩ = some (.int .i64 s.lost) ∧ w.cell? ⟨b, 9, none⟩ = some (.int .i64 s.asked) ∧ (∀ i, w.frozen? ⟨b, i, none⟩ = false) ∧ b < w.heap.size :=
  ⟨Blk.cellv h 0 rfl, Blk.cellv h 1 rfl, Blk.cellv h 2 rfl, Blk.cellv h 3 rfl, Blk.cellv h 4 rfl, Blk.cellv h 5 rfl, Blk.cellv h 6 rfl, Blk.cellv h 7 rfl, Blk.cellv h 8 rfl, Blk.cellv h 9 rfl, Blk.frz h, Blk.lt h⟩


set_option maxHeartbeats 400000 in
theorem right_any (low high : Int) (w : World) :
    Calls Try.prog 11 #[.int .i64 low, .int .i64 high] w fun e w' => e = .returned (.bool (right low high)) ∧ w = w' := by
  by_cases h1 : 576 ≤ low
  · by_cases h2 : low ≤ high
    · by_cases h3 : high ≤ 9000
      · have hr := hid (show right low high = true by simp [right, h1, h2, h3])
        go_enter Try.func11, Try.ntmps11
        go_wp2
        go_ret
        exact ⟨ret_bool (by rw [hr.out]), rfl⟩
      · have hr := hid (show right low high = false by simp [right]; omega)
        go_enter Try.func11, Try.ntmps11
        go_wp2
        go_ret
        exact ⟨ret_bool (by rw [hr.out]), rfl⟩
    · have hr := hid (show right low high = false by simp [right, h2])
      go_enter Try.func11, Try.ntmps11
      go_wp2
      go_ret
      exact ⟨ret_bool (by rw [hr.out]), rfl⟩
  · have hr := hid (show right low high = false by simp [right, h1])
    go_enter Try.func11, Try.ntmps11
    go_wp2
    go_ret
    exact ⟨ret_bool (by rw [hr.out]), rfl⟩

def St.rsettle (s : St) (now : Int) : St := if s.high - s.low < 16 then { s with over := true, since := now } else s

set_option maxHeartbeats 400000 in
theorem rsettle_any (b : Nat) (s : St) (now : Int) (w : World) (hl : 0 ≤ s.low ∧ s.low ≤ 20000 ∧ 0 ≤ s.high ∧ s.high ≤ 20000) (h : RB w b s) :
    Calls Try.prog 40 #[.pointer (some ⟨b, 0, none⟩), .int .i64 now] w fun e w' => e = .returned (.tuple #[]) ∧ RB w' b (s.rsettle now) ∧ Mod (· = b) w w' := by
  obtain ⟨h1, h2, h3, h4⟩ := hl
  have H := hid h
  obtain ⟨c0, c1, c2, c3, c4, c5, c6, c7, c8, c9, cf, hlt⟩ := rrow_cells h
  obtain ⟨slow, shigh, stop, snow, sover, ssince, ssize, scount, sasked, slost⟩ := s
  dsimp only at *
  have hlt1 : b < w.heap.size + 1 := by omega
  clear h
  by_cases hn : shigh - slow < 16
  · have hfin := hid (show St.rsettle ⟨slow, shigh, stop, snow, sover, ssince, ssize, scount, sasked, slost⟩ now = ⟨slow, shigh, stop, snow, true, now, ssize, scount, sasked, slost⟩ by simp [St.rsettle, hn])
    go_enter Try.func40, Try.ntmps40
    go_wp2
    all_goals go_region
    all_goals go_wp2
    all_goals go_end0
    all_goals refine ⟨rfl, ?_, ?_⟩
    · unfold RB
      apply Blk.row
      · repeat (first | with_reducible exact H.out | (with_reducible apply Blk.newAt; (simp; done)) | with_reducible apply Blk.alloc | with_reducible apply Blk.drew | with_reducible apply Blk.set | (with_reducible apply Blk.other; · first | (simp; done) | (simp; omega) | omega))
      · rw [hfin.out]; simp [rrow]
    · repeat (first | with_reducible exact Mod.refl _ _ | with_reducible refine Mod.alloc ?_ _ | with_reducible refine Mod.drew ?_ | (with_reducible refine Mod.set ?_ _ _ (by first | exact .inl rfl | (right; simp; done) | (right; simp; omega) | (left; simp; done) | (left; simp; omega))))
  · have hfin := hid (show St.rsettle ⟨slow, shigh, stop, snow, sover, ssince, ssize, scount, sasked, slost⟩ now = ⟨slow, shigh, stop, snow, sover, ssince, ssize, scount, sasked, slost⟩ by simp [St.rsettle, hn])
    go_enter Try.func40, Try.ntmps40
    go_wp2
    all_goals go_region
    all_goals go_wp2
    all_goals go_end0
    all_goals refine ⟨rfl, ?_, ?_⟩
    · unfold RB
      apply Blk.row
      · repeat (first | with_reducible exact H.out | (with_reducible apply Blk.newAt; (simp; done)) | with_reducible apply Blk.alloc | with_reducible apply Blk.drew | with_reducible apply Blk.set | (with_reducible apply Blk.other; · first | (simp; done) | (simp; omega) | omega))
      · rw [hfin.out]
    · repeat (first | with_reducible exact Mod.refl _ _ | with_reducible refine Mod.alloc ?_ _ | with_reducible refine Mod.drew ?_ | (with_reducible refine Mod.set ?_ _ _ (by first | exact .inl rfl | (right; simp; done) | (right; simp; omega) | (left; simp; done) | (left; simp; omega))))

theorem rnew_bad (low high : Int) (w : World) (hr : right low high = false) :
    Calls Try.prog 19 #[.int .i64 low, .int .i64 high] w fun e w' => e = .returned (.tuple #[.pointer none, .int .i64 7]) ∧ w = w' := by
  have hc := right_any low high w
  rw [hr] at hc
  have HC := hid hc
  clear hc
  go_enter Try.func19, Try.ntmps19
  go_wp2_with (go_at_call 11; refine HC.out.mono ?_; rintro e w' ⟨rfl, rfl⟩)
  go_ret2
  exact ⟨rfl, rfl⟩
set_option maxHeartbeats 400000 in
theorem rnew_ok (low high : Int) (w : World) (hr : right low high = true) :
    Calls Try.prog 19 #[.int .i64 low, .int .i64 high] w fun e w' => e = .returned (.tuple #[.pointer (some ⟨w.heap.size, 0, none⟩), .int .i64 0]) ∧ RB w' w.heap.size (newSt low high) ∧ New w w' := by
  have hc := right_any low high w
  rw [hr] at hc
  have HC := hid hc
  clear hc
  simp [right] at hr
  obtain ⟨h1, h2, h3⟩ := hr
  have hB := hid (Blk.new w (rrow { low := low, high := high, top := high, now := 0, over := false, since := 0, size := 0, count := 0, asked := 0, lost := 0 }) 61)
  have hfin := hid (show St.rsettle { low := low, high := high, top := high, now := 0, over := false, since := 0, size := 0, count := 0, asked := 0, lost := 0 } 0 = newSt low high by unfold newSt St.settle St.rsettle; rfl)
  go_enter Try.func19, Try.ntmps19
  go_wp2_with (first | (go_at_call 11; refine HC.out.mono ?_; rintro e w' ⟨rfl, rfl⟩) | (go_at_call 40; refine (rsettle_any _ { low := low, high := high, top := high, now := 0, over := false, since := 0, size := 0, count := 0, asked := 0, lost := 0 } 0 _ (by dsimp only; omega) hB.out).mono ?_; rintro e w' ⟨rfl, h5, h6⟩; have H5 := hid h5; clear h5; have H6 := hid h6; clear h6))
  go_ret2
  refine ⟨rfl, hfin.out ▸ H5.out, ?_⟩
  exact (Mod.alloc (Mod.refl _ _) _).trans' H6.out (fun i hi e => by have : i = _ := e; omega)
end Go.Proofs.Ytakglmdpaaiclaa
