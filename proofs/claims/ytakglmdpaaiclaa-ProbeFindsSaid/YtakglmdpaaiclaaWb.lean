/-
  The walk of the search's Next. Conditions: the search keeps the bounds of 'St.Ok'.
-/
import Derived.Test.YtakglmdpaaiclaaWa
namespace Go.Proofs.Ytakglmdpaaiclaa
open Go.RowKit

/-- The probe under way lies in a block of its own. -/
def Probe (w : World) (b : Nat) (s : St) (p : Option Addr) : Prop :=
  (s.size = 0 ∧ p = none) ∨ (s.size ≠ 0 ∧ ∃ bp, p = some ⟨bp, 0, none⟩ ∧ bp ≠ b ∧ Blk w bp #[.int .i64 s.size, .int .i64 s.count] 65)


set_option maxHeartbeats 800000 in
theorem next_bad (b : Nat) (s : St) (p : Option Addr) (now : Int) (w : World) (hb : s.bad now = true) (h : Blk w b (prow s p) 58) :
    Calls Try.prog 16 #[.pointer (some ⟨b, 0, none⟩), .int .i64 now] w fun e w' => e = .returned (.tuple #[.int .i64 0, .int .i64 0, .int .i64 7]) ∧ w = w' := by
  have hc := hid (at_bad b s p now w hb h)
  go_enter Try.func16, Try.ntmps16
  go_wp2_with (go_at_call 38; refine hc.out.mono ?_; rintro e w' ⟨rfl, rfl⟩)
  go_ret3
  exact ⟨rfl, rfl⟩
set_option maxHeartbeats 800000 in
theorem next_state (b : Nat) (s : St) (a : Addr) (now : Int) (w : World) (hb : s.bad now = false) (h : Blk w b (prow s (some a)) 58) :
    Calls Try.prog 16 #[.pointer (some ⟨b, 0, none⟩), .int .i64 now] w fun e w' => e = .returned (.tuple #[.int .i64 0, .int .i64 0, .int .i64 9]) ∧ New w w' := by
  have hc := hid (at_ok b s (some a) now w hb h)
  obtain ⟨c0, c1, c2, c3, c4, c5, c6, c7, c8, c9, cf, hlt⟩ := prow_cells h
  obtain ⟨slow, shigh, stop, snow, sover, ssince, ssize, scount, sasked, slost⟩ := s
  dsimp only at *
  have hlt1 : b < w.heap.size + 1 := by omega
  have hlt2 : b < w.heap.size + 1 + 1 := by omega
  have hlt3 : b < w.heap.size + 1 + 1 + 1 := by omega
  clear hb h
  go_enter Try.func16, Try.ntmps16
  go_wp2_with (go_at_call 38; refine hc.out.mono ?_; rintro e w' ⟨rfl, rfl⟩)
  go_region
  all_goals go_wp2
  all_goals go_ret3
  all_goals refine ⟨rfl, ?_⟩
  all_goals repeat (first | with_reducible exact Mod.refl _ _ | with_reducible refine Mod.alloc ?_ _ | with_reducible refine Mod.drew ?_ | (with_reducible refine Mod.set ?_ _ _ (by first | exact .inl rfl | (right; simp; done) | (right; simp; omega) | (left; simp; done) | (left; simp; omega))))

set_option maxHeartbeats 800000 in
theorem next_none (b : Nat) (s : St) (now : Int) (w : World) (hk : s.Ok) (hb : s.bad now = false) (ho : s.over = true) (hn : now < s.since + 600000 ∨ s.top - s.low < 16) (h : Blk w b (prow s none) 58) :
    Calls Try.prog 16 #[.pointer (some ⟨b, 0, none⟩), .int .i64 now] w fun e w' => e = .returned (.tuple #[.int .i64 0, .int .i64 0, .int .i64 8]) ∧ New w w' := by
  have hc := hid (at_ok b s none now w hb h)
  obtain ⟨l1, l2, l3, l4, n1, n2, s1, s2, -, -, -, -, -, -, -, -, -⟩ := hk
  have H := hid h
  obtain ⟨c0, c1, c2, c3, c4, c5, c6, c7, c8, c9, cf, hlt⟩ := prow_cells h
  obtain ⟨slow, shigh, stop, snow, sover, ssince, ssize, scount, sasked, slost⟩ := s
  dsimp only at *
  have hlt1 : b < w.heap.size + 1 := by omega
  have hlt2 : b < w.heap.size + 1 + 1 := by omega
  have hlt3 : b < w.heap.size + 1 + 1 + 1 := by omega
  subst ho
  clear hb h
  by_cases hr : now < ssince + 600000
  · clear hn
    go_enter Try.func16, Try.ntmps16
    go_wp2_with (go_at_call 38; refine hc.out.mono ?_; rintro e w' ⟨rfl, rfl⟩)
    go_region
    all_goals go_wp2_with (go_at_call 39; refine (rested_any b _ none _ _ (by dsimp only; omega) (H.out.drew.alloc _)).mono ?_; rintro e w' ⟨rfl, rfl⟩)
    all_goals go_ret3
    all_goals refine ⟨rfl, ?_⟩
    all_goals repeat (first | with_reducible exact Mod.refl _ _ | with_reducible refine Mod.alloc ?_ _ | with_reducible refine Mod.drew ?_ | (with_reducible refine Mod.set ?_ _ _ (by first | exact .inl rfl | (right; simp; done) | (right; simp; omega) | (left; simp; done) | (left; simp; omega))))
  · have hn' : stop - slow < 16 := by omega
    clear hn
    go_enter Try.func16, Try.ntmps16
    go_wp2_with (go_at_call 38; refine hc.out.mono ?_; rintro e w' ⟨rfl, rfl⟩)
    go_region
    all_goals go_wp2_with (first | (go_at_call 39; refine (rested_any b _ none _ _ (by dsimp only; omega) (H.out.drew.alloc _)).mono ?_; rintro e w' ⟨rfl, rfl⟩) | (go_at_call 35; refine (near_any _ _ _ (by omega)).mono ?_; rintro e w' ⟨rfl, rfl⟩))
    all_goals go_ret3
    all_goals refine ⟨rfl, ?_⟩
    all_goals repeat (first | with_reducible exact Mod.refl _ _ | with_reducible refine Mod.alloc ?_ _ | with_reducible refine Mod.drew ?_ | (with_reducible refine Mod.set ?_ _ _ (by first | exact .inl rfl | (right; simp; done) | (right; simp; omega) | (left; simp; done) | (left; simp; omega))))

/-- Next asks, the search having not found. -/
theorem next_ask (b : Nat) (s : St) (now : Int) (w : World) (hk : s.Ok) (hb : s.bad now = false) (ho : s.over = false) (h : Blk w b (prow s none) 58) :
    Calls Try.prog 16 #[.pointer (some ⟨b, 0, none⟩), .int .i64 now] w fun e w' => e = .returned (.tuple #[.int .i64 (s.asks now).size, .int .i64 (s.asks now).count, .int .i64 0]) ∧
      ∃ bp, w.heap.size ≤ bp ∧ Blk w' b (prow (s.asks now) (some ⟨bp, 0, none⟩)) 58 ∧ Blk w' bp #[.int .i64 (s.asks now).size, .int .i64 (s.asks now).count] 65 ∧ Mod (· = b) w w' := by
  have hc := hid (at_ok b s none now w hb h)
  obtain ⟨l1, l2, l3, l4, n1, n2, s1, s2, k1, k2, -, -, -, -, -, -, -⟩ := hk
  have H := hid h
  have hbad := hb
  simp only [St.bad, decide_eq_false_iff_not, not_or, Int.not_lt] at hbad
  obtain ⟨hb1, hb2⟩ := hbad
  obtain ⟨c0, c1, c2, c3, c4, c5, c6, c7, c8, c9, cf, hlt⟩ := prow_cells h
  obtain ⟨slow, shigh, stop, snow, sover, ssince, ssize, scount, sasked, slost⟩ := s
  dsimp only at *
  have hlt1 : b < w.heap.size + 1 := by omega
  have hlt2 : b < w.heap.size + 1 + 1 := by omega
  have hlt3 : b < w.heap.size + 1 + 1 + 1 := by omega
  subst ho
  clear hb h
  by_cases ha : (slow + shigh + 1) / 2 = sasked
  · have hfin := hid (show St.asks ⟨slow, shigh, stop, snow, false, ssince, ssize, scount, sasked, slost⟩ now = ⟨slow, shigh, stop, now, false, ssince, (slow + shigh + 1) / 2, scount + 1, sasked, slost⟩ by simp [St.asks, ha])
    have ha' : ((slow + shigh + 1) / 2 != sasked) = false := by simp [ha]
    have Ha := hid ha
    clear ha
    go_enter Try.func16, Try.ntmps16
    go_wp2_with (go_at_call 38; refine hc.out.mono ?_; rintro e w' ⟨rfl, rfl⟩)
    go_region
    all_goals go_wp2_with (go_at_call 36; refine (middle_any _ _ _ (by omega)).mono ?_; rintro e w' ⟨rfl, rfl⟩)
    all_goals go_region
    all_goals go_wp2
    all_goals go_region
    all_goals go_wp2
    all_goals go_ret3
    all_goals refine ⟨by rw [hfin.out, Ha.out]; rfl, w.heap.size + 1 + 1, by omega, ?_, ?_, ?_⟩
    · apply Blk.row
      · repeat (first | with_reducible exact H.out | (with_reducible apply Blk.newAt; (simp; done)) | with_reducible apply Blk.alloc | with_reducible apply Blk.drew | with_reducible apply Blk.set | (with_reducible apply Blk.other; · first | (simp; done) | (simp; omega) | omega))
      · rw [hfin.out]; simp [prow, Ha.out]
    · apply Blk.row
      · repeat (first | with_reducible exact H.out | (with_reducible apply Blk.newAt; (simp; done)) | with_reducible apply Blk.alloc | with_reducible apply Blk.drew | with_reducible apply Blk.set | (with_reducible apply Blk.other; · first | (simp; done) | (simp; omega) | omega))
      · rw [hfin.out, Ha.out]
    · repeat (first | with_reducible exact Mod.refl _ _ | with_reducible refine Mod.alloc ?_ _ | with_reducible refine Mod.drew ?_ | (with_reducible refine Mod.set ?_ _ _ (by first | exact .inl rfl | (right; simp; done) | (right; simp; omega) | (left; simp; done) | (left; simp; omega))))
  · have hfin := hid (show St.asks ⟨slow, shigh, stop, snow, false, ssince, ssize, scount, sasked, slost⟩ now = ⟨slow, shigh, stop, now, false, ssince, (slow + shigh + 1) / 2, scount + 1, (slow + shigh + 1) / 2, 0⟩ by simp [St.asks, ha])
    go_enter Try.func16, Try.ntmps16
    go_wp2_with (go_at_call 38; refine hc.out.mono ?_; rintro e w' ⟨rfl, rfl⟩)
    go_region
    all_goals go_wp2_with (go_at_call 36; refine (middle_any _ _ _ (by omega)).mono ?_; rintro e w' ⟨rfl, rfl⟩)
    all_goals go_region
    all_goals go_wp2
    all_goals go_region
    all_goals go_wp2
    all_goals go_ret3
    all_goals refine ⟨by rw [hfin.out]; rfl, w.heap.size + 1 + 1, by omega, ?_, ?_, ?_⟩
    · apply Blk.row
      · repeat (first | with_reducible exact H.out | (with_reducible apply Blk.newAt; (simp; done)) | with_reducible apply Blk.alloc | with_reducible apply Blk.drew | with_reducible apply Blk.set | (with_reducible apply Blk.other; · first | (simp; done) | (simp; omega) | omega))
      · rw [hfin.out]; simp [prow]
    · apply Blk.row
      · repeat (first | with_reducible exact H.out | (with_reducible apply Blk.newAt; (simp; done)) | with_reducible apply Blk.alloc | with_reducible apply Blk.drew | with_reducible apply Blk.set | (with_reducible apply Blk.other; · first | (simp; done) | (simp; omega) | omega))
      · rw [hfin.out]
    · repeat (first | with_reducible exact Mod.refl _ _ | with_reducible refine Mod.alloc ?_ _ | with_reducible refine Mod.drew ?_ | (with_reducible refine Mod.set ?_ _ _ (by first | exact .inl rfl | (right; simp; done) | (right; simp; omega) | (left; simp; done) | (left; simp; omega))))

/-- Next asks anew, the time of rest being over. -/
theorem next_anew (b : Nat) (s : St) (now : Int) (w : World) (hk : s.Ok) (hb : s.bad now = false) (ho : s.over = true) (hr : s.since + 600000 ≤ now) (hn : 16 ≤ s.top - s.low) (h : Blk w b (prow s none) 58) :
    Calls Try.prog 16 #[.pointer (some ⟨b, 0, none⟩), .int .i64 now] w fun e w' => e = .returned (.tuple #[.int .i64 (s.anew.asks now).size, .int .i64 (s.anew.asks now).count, .int .i64 0]) ∧
      ∃ bp, w.heap.size ≤ bp ∧ Blk w' b (prow (s.anew.asks now) (some ⟨bp, 0, none⟩)) 58 ∧ Blk w' bp #[.int .i64 (s.anew.asks now).size, .int .i64 (s.anew.asks now).count] 65 ∧ Mod (· = b) w w' := by
  have hc := hid (at_ok b s none now w hb h)
  obtain ⟨l1, l2, l3, l4, n1, n2, s1, s2, k1, k2, -, -, -, -, -, -, -⟩ := hk
  have H := hid h
  have hbad := hb
  simp only [St.bad, decide_eq_false_iff_not, not_or, Int.not_lt] at hbad
  obtain ⟨hb1, hb2⟩ := hbad
  obtain ⟨c0, c1, c2, c3, c4, c5, c6, c7, c8, c9, cf, hlt⟩ := prow_cells h
  obtain ⟨slow, shigh, stop, snow, sover, ssince, ssize, scount, sasked, slost⟩ := s
  dsimp only at *
  have hlt1 : b < w.heap.size + 1 := by omega
  have hlt2 : b < w.heap.size + 1 + 1 := by omega
  have hlt3 : b < w.heap.size + 1 + 1 + 1 := by omega
  subst ho
  clear hb h
  by_cases ha : (slow + stop + 1) / 2 = sasked
  · have hfin := hid (show St.asks (St.anew ⟨slow, shigh, stop, snow, true, ssince, ssize, scount, sasked, slost⟩) now = ⟨slow, stop, stop, now, false, ssince, (slow + stop + 1) / 2, scount + 1, sasked, slost⟩ by simp [St.asks, St.anew, ha])
    have ha' : ((slow + stop + 1) / 2 != sasked) = false := by simp [ha]
    have Ha := hid ha
    clear ha
    go_enter Try.func16, Try.ntmps16
    go_wp2_with (go_at_call 38; refine hc.out.mono ?_; rintro e w' ⟨rfl, rfl⟩)
    go_region
    all_goals go_wp2_with (first | (go_at_call 39; refine (rested_any b _ none _ _ (by dsimp only; omega) (H.out.drew.alloc _)).mono ?_; rintro e w' ⟨rfl, rfl⟩) | (go_at_call 35; refine (near_any _ _ _ (by omega)).mono ?_; rintro e w' ⟨rfl, rfl⟩) | (go_at_call 36; refine (middle_any _ _ _ (by omega)).mono ?_; rintro e w' ⟨rfl, rfl⟩))
    all_goals go_region
    all_goals go_wp2
    all_goals go_region
    all_goals go_wp2
    all_goals go_ret3
    all_goals refine ⟨by rw [hfin.out, Ha.out]; rfl, w.heap.size + 1 + 1 + 1, by omega, ?_, ?_, ?_⟩
    · apply Blk.row
      · repeat (first | with_reducible exact H.out | (with_reducible apply Blk.newAt; (simp; done)) | with_reducible apply Blk.alloc | with_reducible apply Blk.drew | with_reducible apply Blk.set | (with_reducible apply Blk.other; · first | (simp; done) | (simp; omega) | omega))
      · rw [hfin.out]; simp [prow, Ha.out]
    · apply Blk.row
      · repeat (first | with_reducible exact H.out | (with_reducible apply Blk.newAt; (simp; done)) | with_reducible apply Blk.alloc | with_reducible apply Blk.drew | with_reducible apply Blk.set | (with_reducible apply Blk.other; · first | (simp; done) | (simp; omega) | omega))
      · rw [hfin.out, Ha.out]
    · repeat (first | with_reducible exact Mod.refl _ _ | with_reducible refine Mod.alloc ?_ _ | with_reducible refine Mod.drew ?_ | (with_reducible refine Mod.set ?_ _ _ (by first | exact .inl rfl | (right; simp; done) | (right; simp; omega) | (left; simp; done) | (left; simp; omega))))
  · have hfin := hid (show St.asks (St.anew ⟨slow, shigh, stop, snow, true, ssince, ssize, scount, sasked, slost⟩) now = ⟨slow, stop, stop, now, false, ssince, (slow + stop + 1) / 2, scount + 1, (slow + stop + 1) / 2, 0⟩ by simp [St.asks, St.anew, ha])
    go_enter Try.func16, Try.ntmps16
    go_wp2_with (go_at_call 38; refine hc.out.mono ?_; rintro e w' ⟨rfl, rfl⟩)
    go_region
    all_goals go_wp2_with (first | (go_at_call 39; refine (rested_any b _ none _ _ (by dsimp only; omega) (H.out.drew.alloc _)).mono ?_; rintro e w' ⟨rfl, rfl⟩) | (go_at_call 35; refine (near_any _ _ _ (by omega)).mono ?_; rintro e w' ⟨rfl, rfl⟩) | (go_at_call 36; refine (middle_any _ _ _ (by omega)).mono ?_; rintro e w' ⟨rfl, rfl⟩))
    all_goals go_region
    all_goals go_wp2
    all_goals go_region
    all_goals go_wp2
    all_goals go_ret3
    all_goals refine ⟨by rw [hfin.out]; rfl, w.heap.size + 1 + 1 + 1, by omega, ?_, ?_, ?_⟩
    · apply Blk.row
      · repeat (first | with_reducible exact H.out | (with_reducible apply Blk.newAt; (simp; done)) | with_reducible apply Blk.alloc | with_reducible apply Blk.drew | with_reducible apply Blk.set | (with_reducible apply Blk.other; · first | (simp; done) | (simp; omega) | omega))
      · rw [hfin.out]; simp [prow]
    · apply Blk.row
      · repeat (first | with_reducible exact H.out | (with_reducible apply Blk.newAt; (simp; done)) | with_reducible apply Blk.alloc | with_reducible apply Blk.drew | with_reducible apply Blk.set | (with_reducible apply Blk.other; · first | (simp; done) | (simp; omega) | omega))
      · rw [hfin.out]
    · repeat (first | with_reducible exact Mod.refl _ _ | with_reducible refine Mod.alloc ?_ _ | with_reducible refine Mod.drew ?_ | (with_reducible refine Mod.set ?_ _ _ (by first | exact .inl rfl | (right; simp; done) | (right; simp; omega) | (left; simp; done) | (left; simp; omega))))
end Go.Proofs.Ytakglmdpaaiclaa
