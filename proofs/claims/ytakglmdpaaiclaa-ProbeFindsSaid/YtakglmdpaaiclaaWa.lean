/-
  The walks of package probe's search: near, middle, settle, at, rested, New. Conditions: the search is one that keeps the bounds of 'St.Ok'.
-/
import Derived.Test.YtakglmdpaaiclaaBase
import Derived.Test.YtakglmdpaaiclaaModel
namespace Go.Proofs.Ytakglmdpaaiclaa
open Go.RowKit

def prow (s : St) (p : Option Addr) : Array Value := #[.int .i64 s.low, .int .i64 s.high, .int .i64 s.top, .int .i64 s.now, .bool s.over, .int .i64 s.since, .pointer p, .int .i64 s.count, .int .i64 s.asked, .int .i64 s.lost]

theorem prow_cells {w : World} {b : Nat} {s : St} {p : Option Addr} {t : TypeId} (h : Blk w b (prow s p) t) :
    w.cell? ⟨b, 0, none⟩ = some (.int .i64 s.low) ∧ w.cell? ⟨b, 1, none⟩ = some (.int .i64 s.high) ∧ w.cell? ⟨b, 2, none⟩ = some (.int .i64 s.top) ∧ w.cell? ⟨b, 3, none⟩ = some (.int .i64 s.now) ∧
    w.cell? ⟨b, 4, none⟩ = some (.bool s.over) ∧ w.cell? ⟨b, 5, none⟩ = some (.int .i64 s.since) ∧ w.cell? ⟨b, 6, none⟩ = some (.pointer p) ∧ w.cell? ⟨b, 7, none⟩ = some (.int .i64 s.count) ∧
    w.cell? ⟨b, 8, none⟩ = some (.int .i64 s.asked) ∧ w.cell? ⟨b, 9, none⟩ = some (.int .i64 s.lost) ∧ (∀ i, w.frozen? ⟨b, i, none⟩ = false) ∧ b < w.heap.size :=
  ⟨h.cellv 0 rfl, h.cellv 1 rfl, h.cellv 2 rfl, h.cellv 3 rfl, h.cellv 4 rfl, h.cellv 5 rfl, h.cellv 6 rfl, h.cellv 7 rfl, h.cellv 8 rfl, h.cellv 9 rfl, h.frz, h.lt⟩

set_option maxHeartbeats 400000 in
theorem near_any (a b : Int) (w : World) (h : 0 ≤ a ∧ a ≤ 20000 ∧ 0 ≤ b ∧ b ≤ 20000) :
    Calls Try.prog 35 #[.agg #[.int .i64 a, .int .i64 b]] w fun e w' => e = .returned (.bool (decide (b - a < 16))) ∧ w' = w.alloc (.cells #[.int .i64 a, .int .i64 b] 55) := by
  obtain ⟨h1, h2, h3, h4⟩ := h
  go_enter Try.func35, Try.ntmps35
  go_wp2
  go_ret
  exact ⟨rfl, rfl⟩
set_option maxHeartbeats 400000 in
theorem middle_any (a b : Int) (w : World) (h : 0 ≤ a ∧ a ≤ 20000 ∧ 0 ≤ b ∧ b ≤ 20000) :
    Calls Try.prog 36 #[.agg #[.int .i64 a, .int .i64 b]] w fun e w' => e = .returned (.int .i64 ((a + b + 1) / 2)) ∧ w' = w.alloc (.cells #[.int .i64 a, .int .i64 b] 55) := by
  obtain ⟨h1, h2, h3, h4⟩ := h
  go_enter Try.func36, Try.ntmps36
  go_wp2
  go_ret
  exact ⟨rfl, rfl⟩

set_option maxHeartbeats 400000 in
theorem settle_any (b : Nat) (s : St) (p : Option Addr) (w : World) (hl : 0 ≤ s.low ∧ s.low ≤ 20000 ∧ 0 ≤ s.high ∧ s.high ≤ 20000) (h : Blk w b (prow s p) 58) :
    Calls Try.prog 37 #[.pointer (some ⟨b, 0, none⟩)] w fun e w' => e = .returned (.tuple #[]) ∧ Blk w' b (prow s.settle p) 58 ∧ Mod (· = b) w w' := by
  obtain ⟨h1, h2, h3, h4⟩ := hl
  obtain ⟨c0, c1, c2, c3, c4, c5, c6, c7, c8, c9, cf, hlt⟩ := prow_cells h
  obtain ⟨slow, shigh, stop, snow, sover, ssince, ssize, scount, sasked, slost⟩ := s
  dsimp only at *
  by_cases hn : shigh - slow < 16
  · have H := hid h; clear h
    go_enter Try.func37, Try.ntmps37
    go_wp2_with (go_at_call 35; refine (near_any _ _ _ (by omega)).mono ?_; rintro e w' ⟨rfl, rfl⟩)
    go_end0
    refine ⟨rfl, ?_, ?_⟩
    · apply Blk.row
      · repeat (first | with_reducible exact H.out | (with_reducible apply Blk.newAt; (simp; done)) | with_reducible apply Blk.alloc | with_reducible apply Blk.drew | with_reducible apply Blk.set | (with_reducible apply Blk.other; · first | (simp; done) | (simp; omega) | omega))
      · simp [St.settle, hn, prow]
    · repeat (first | with_reducible exact Mod.refl _ _ | with_reducible refine Mod.alloc ?_ _ | with_reducible refine Mod.drew ?_ | (with_reducible refine Mod.set ?_ _ _ (by first | exact .inl rfl | (right; simp; done) | (right; simp; omega) | (left; simp; done) | (left; simp; omega))))
  · have H := hid h; clear h
    go_enter Try.func37, Try.ntmps37
    go_wp2_with (go_at_call 35; refine (near_any _ _ _ (by omega)).mono ?_; rintro e w' ⟨rfl, rfl⟩)
    go_end0
    refine ⟨rfl, ?_, ?_⟩
    · apply Blk.row
      · repeat (first | with_reducible exact H.out | (with_reducible apply Blk.newAt; (simp; done)) | with_reducible apply Blk.alloc | with_reducible apply Blk.drew | with_reducible apply Blk.set | (with_reducible apply Blk.other; · first | (simp; done) | (simp; omega) | omega))
      · simp [St.settle, show ¬ shigh - slow < 16 from by omega, prow]
    · repeat (first | with_reducible exact Mod.refl _ _ | with_reducible refine Mod.alloc ?_ _ | with_reducible refine Mod.drew ?_ | (with_reducible refine Mod.set ?_ _ _ (by first | exact .inl rfl | (right; simp; done) | (right; simp; omega) | (left; simp; done) | (left; simp; omega))))


set_option maxHeartbeats 400000 in
theorem at_ok (b : Nat) (s : St) (p : Option Addr) (now : Int) (w : World) (hb : s.bad now = false) (h : Blk w b (prow s p) 58) :
    Calls Try.prog 38 #[.pointer (some ⟨b, 0, none⟩), .int .i64 now] w fun e w' => e = .returned (.int .i64 0) ∧ w = w' := by
  obtain ⟨c0, c1, c2, c3, c4, c5, c6, c7, c8, c9, cf, hlt⟩ := prow_cells h
  obtain ⟨slow, shigh, stop, snow, sover, ssince, ssize, scount, sasked, slost⟩ := s
  dsimp only at *
  simp [St.bad] at hb
  obtain ⟨hb1, hb2⟩ := hb
  clear h
  go_enter Try.func38, Try.ntmps38
  go_wp2
  go_ret
  exact ⟨rfl, rfl⟩
set_option maxHeartbeats 400000 in
theorem at_bad (b : Nat) (s : St) (p : Option Addr) (now : Int) (w : World) (hb : s.bad now = true) (h : Blk w b (prow s p) 58) :
    Calls Try.prog 38 #[.pointer (some ⟨b, 0, none⟩), .int .i64 now] w fun e w' => e = .returned (.int .i64 7) ∧ w = w' := by
  obtain ⟨c0, c1, c2, c3, c4, c5, c6, c7, c8, c9, cf, hlt⟩ := prow_cells h
  obtain ⟨slow, shigh, stop, snow, sover, ssince, ssize, scount, sasked, slost⟩ := s
  dsimp only at *
  simp [St.bad] at hb
  clear h
  by_cases h1 : now < snow
  · clear hb
    go_enter Try.func38, Try.ntmps38
    go_wp2
    go_ret
    exact ⟨rfl, rfl⟩
  · have h2 : 1000000000 < now := by omega
    clear hb
    go_enter Try.func38, Try.ntmps38
    go_wp2
    go_ret
    exact ⟨rfl, rfl⟩
set_option maxHeartbeats 400000 in
theorem rested_any (b : Nat) (s : St) (p : Option Addr) (now : Int) (w : World) (hb : 0 ≤ s.since ∧ s.since ≤ 1000000000) (h : Blk w b (prow s p) 58) :
    Calls Try.prog 39 #[.pointer (some ⟨b, 0, none⟩), .int .i64 now] w fun e w' => e = .returned (.bool (decide (s.since + 600000 ≤ now))) ∧ w = w' := by
  obtain ⟨c0, c1, c2, c3, c4, c5, c6, c7, c8, c9, cf, hlt⟩ := prow_cells h
  obtain ⟨slow, shigh, stop, snow, sover, ssince, ssize, scount, sasked, slost⟩ := s
  dsimp only at *
  obtain ⟨hb1, hb2⟩ := hb
  clear h
  go_enter Try.func39, Try.ntmps39
  go_wp2
  go_ret
  exact ⟨rfl, rfl⟩

set_option maxHeartbeats 400000 in
theorem new_ok (low high : Int) (w : World) (hr : right low high = true) :
    Calls Try.prog 12 #[.int .i64 low, .int .i64 high] w fun e w' => e = .returned (.tuple #[.pointer (some ⟨w.heap.size, 0, none⟩), .int .i64 0]) ∧ Blk w' w.heap.size (prow (newSt low high) none) 58 ∧ New w w' := by
  simp [right] at hr
  obtain ⟨h1, h2, h3⟩ := hr
  have hB := hid (Blk.new w (prow { low := low, high := high, top := high, now := 0, over := false, since := 0, size := 0, count := 0, asked := 0, lost := 0 } none) 58)
  go_enter Try.func12, Try.ntmps12
  go_wp2_with (go_at_call 37; refine (settle_any w.heap.size { low := low, high := high, top := high, now := 0, over := false, since := 0, size := 0, count := 0, asked := 0, lost := 0 } none _ (by dsimp only; omega) hB.out).mono ?_; rintro e w' ⟨rfl, h5, h6⟩)
  go_ret2
  refine ⟨rfl, h5, ?_⟩
  exact (Mod.alloc (Mod.refl _ _) _).trans' h6 (fun i hi e => by have : i = w.heap.size := e; omega)
theorem new_bad (low high : Int) (w : World) (hr : right low high = false) :
    Calls Try.prog 12 #[.int .i64 low, .int .i64 high] w fun e w' => e = .returned (.tuple #[.pointer none, .int .i64 7]) ∧ w = w' := by
  simp [right] at hr
  by_cases h1 : low < 576
  · clear hr
    go_enter Try.func12, Try.ntmps12
    go_wp2
    go_ret2
    exact ⟨rfl, rfl⟩
  · by_cases h2 : 9000 < high
    · clear hr
      go_enter Try.func12, Try.ntmps12
      go_wp2
      go_ret2
      exact ⟨rfl, rfl⟩
    · have h3 : high < low := by omega
      clear hr
      go_enter Try.func12, Try.ntmps12
      go_wp2
      go_ret2
      exact ⟨rfl, rfl⟩
end Go.Proofs.Ytakglmdpaaiclaa
