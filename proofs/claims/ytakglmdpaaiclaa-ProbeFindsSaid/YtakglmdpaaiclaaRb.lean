/-
  The walks of the reference's search: Next. Conditions: the search keeps the bounds of 'St.Ok'.
-/
import Derived.Test.YtakglmdpaaiclaaRa
namespace Go.Proofs.Ytakglmdpaaiclaa
open Go.RowKit


set_option maxHeartbeats 800000 in
theorem rnext_bad (b : Nat) (s : St) (now : Int) (w : World) (hb : s.bad now = true) (h : RB w b s) :
    Calls Try.prog 29 #[.pointer (some ⟨b, 0, none⟩), .int .i64 now] w fun e w' => e = .returned (.tuple #[.int .i64 0, .int .i64 0, .int .i64 7]) ∧ w = w' := by
  obtain ⟨c0, c1, c2, c3, c4, c5, c6, c7, c8, c9, cf, hlt⟩ := rrow_cells h
  obtain ⟨slow, shigh, stop, snow, sover, ssince, ssize, scount, sasked, slost⟩ := s
  dsimp only at *
  have hlt1 : b < w.heap.size + 1 := by omega
  simp [St.bad] at hb
  clear h
  by_cases h1 : now < snow
  · clear hb
    go_enter Try.func29, Try.ntmps29
    go_wp2
    go_ret3
    exact ⟨rfl, rfl⟩
  · have h2 : 1000000000 < now := by omega
    clear hb
    go_enter Try.func29, Try.ntmps29
    go_wp2
    go_ret3
    exact ⟨rfl, rfl⟩
set_option maxHeartbeats 800000 in
theorem rnext_state (b : Nat) (s : St) (now : Int) (w : World) (hb : s.bad now = false) (hz : 0 < s.size) (h : RB w b s) :
    Calls Try.prog 29 #[.pointer (some ⟨b, 0, none⟩), .int .i64 now] w fun e w' => e = .returned (.tuple #[.int .i64 0, .int .i64 0, .int .i64 9]) ∧ w = w' := by
  obtain ⟨c0, c1, c2, c3, c4, c5, c6, c7, c8, c9, cf, hlt⟩ := rrow_cells h
  obtain ⟨slow, shigh, stop, snow, sover, ssince, ssize, scount, sasked, slost⟩ := s
  dsimp only at *
  have hlt1 : b < w.heap.size + 1 := by omega
  simp [St.bad] at hb
  obtain ⟨hb1, hb2⟩ := hb
  clear h
  go_enter Try.func29, Try.ntmps29
  go_wp2
  go_ret3
  exact ⟨rfl, rfl⟩

set_option maxHeartbeats 800000 in
theorem rnext_none1 (b : Nat) (s : St) (now : Int) (w : World) (hk : s.Ok) (hb : s.bad now = false) (hz : s.size = 0) (ho : s.over = true) (hn : now < s.since + 600000) (h : RB w b s) :
    Calls Try.prog 29 #[.pointer (some ⟨b, 0, none⟩), .int .i64 now] w fun e w' => e = .returned (.tuple #[.int .i64 0, .int .i64 0, .int .i64 8]) ∧ RB w' b s ∧ Mod (· = b) w w' := by
  obtain ⟨l1, l2, l3, l4, n1, n2, s1, s2, -, -, -, -, -, -, -, -, -⟩ := hk
  have H := hid h
  obtain ⟨c0, c1, c2, c3, c4, c5, c6, c7, c8, c9, cf, hlt⟩ := rrow_cells h
  obtain ⟨slow, shigh, stop, snow, sover, ssince, ssize, scount, sasked, slost⟩ := s
  dsimp only at *
  have hlt1 : b < w.heap.size + 1 := by omega
  subst ho; subst hz
  simp [St.bad] at hb
  obtain ⟨hb1, hb2⟩ := hb
  clear h
  go_enter Try.func29, Try.ntmps29
  go_wp2
  go_ret3
  refine ⟨rfl, ?_, ?_⟩
  · apply Blk.row
    · repeat (first | with_reducible exact H.out | (with_reducible apply Blk.newAt; (simp; done)) | with_reducible apply Blk.alloc | with_reducible apply Blk.drew | with_reducible apply Blk.set | (with_reducible apply Blk.other; · first | (simp; done) | (simp; omega) | omega))
    · rfl
  · repeat (first | with_reducible exact Mod.refl _ _ | with_reducible refine Mod.alloc ?_ _ | with_reducible refine Mod.drew ?_ | (with_reducible refine Mod.set ?_ _ _ (by first | exact .inl rfl | (right; simp; done) | (right; simp; omega) | (left; simp; done) | (left; simp; omega))))

set_option maxHeartbeats 800000 in
theorem rnext_none2 (b : Nat) (s : St) (now : Int) (w : World) (hk : s.Ok) (hb : s.bad now = false) (hz : s.size = 0) (ho : s.over = true) (hr : s.since + 600000 ≤ now) (hn : s.top - s.low < 16) (h : RB w b s) :
    Calls Try.prog 29 #[.pointer (some ⟨b, 0, none⟩), .int .i64 now] w fun e w' => e = .returned (.tuple #[.int .i64 0, .int .i64 0, .int .i64 8]) ∧ RB w' b s ∧ Mod (· = b) w w' := by
  obtain ⟨l1, l2, l3, l4, n1, n2, s1, s2, -, -, -, -, -, -, -, -, -⟩ := hk
  have H := hid h
  obtain ⟨c0, c1, c2, c3, c4, c5, c6, c7, c8, c9, cf, hlt⟩ := rrow_cells h
  obtain ⟨slow, shigh, stop, snow, sover, ssince, ssize, scount, sasked, slost⟩ := s
  dsimp only at *
  have hlt1 : b < w.heap.size + 1 := by omega
  subst ho; subst hz
  simp [St.bad] at hb
  obtain ⟨hb1, hb2⟩ := hb
  clear h
  have hset := hid (show St.rsettle ⟨slow, stop, stop, snow, false, ssince, 0, scount, sasked, slost⟩ now = ⟨slow, stop, stop, snow, true, now, 0, scount, sasked, slost⟩ by simp [St.rsettle, hn])
  go_enter Try.func29, Try.ntmps29
  go_wp2_with fail
  refine (rsettle_any b ⟨slow, stop, stop, snow, false, ssince, 0, scount, sasked, slost⟩ now _ (by dsimp only; omega) ?_).mono ?_
  · apply Blk.row
    · repeat (first | with_reducible exact H.out | (with_reducible apply Blk.newAt; (simp; done)) | with_reducible apply Blk.alloc | with_reducible apply Blk.drew | with_reducible apply Blk.set | (with_reducible apply Blk.other; · first | (simp; done) | (simp; omega) | omega))
    · simp [rrow]
  rintro e w1 ⟨rfl, hB1, hM1⟩
  rw [hset.out] at hB1
  have hW := hid (hM1.blk (Blk.newAt (cs := rrow ⟨slow, shigh, stop, snow, true, ssince, 0, scount, sasked, slost⟩) (t := 61) (b := w.heap.size) (by simp)) (by omega))
  have hB1' := hid hB1
  have hM1' := hid hM1
  obtain ⟨d0, d1, d2, d3, d4, d5, d6, d7, d8, d9, df, dlt⟩ := rrow_cells hB1
  obtain ⟨e0, e1, e2, e3, e4, e5, e6, e7, e8, e9, ef, elt⟩ := rrow_cells hW.out
  dsimp only at *
  clear c0 c1 c2 c3 c4 c5 c6 c7 c8 c9 cf hB1 hM1
  go_wp2
  go_ret3
  refine ⟨rfl, ?_, ?_⟩
  · apply Blk.row
    · repeat (first | with_reducible exact hB1'.out | (with_reducible apply Blk.newAt; (simp; done)) | with_reducible apply Blk.alloc | with_reducible apply Blk.drew | with_reducible apply Blk.set | (with_reducible apply Blk.other; · first | (simp; done) | (simp; omega) | omega))
    · simp [rrow]
  · refine Mod.trans (b := w1) ?_ ?_
    · refine Mod.trans ?_ hM1'.out
      repeat (first | with_reducible exact Mod.refl _ _ | with_reducible refine Mod.alloc ?_ _ | with_reducible refine Mod.drew ?_ | (with_reducible refine Mod.set ?_ _ _ (by first | exact .inl rfl | (right; simp; done) | (right; simp; omega) | (left; simp; done) | (left; simp; omega))))
    · repeat (first | with_reducible exact Mod.refl _ _ | with_reducible refine Mod.alloc ?_ _ | with_reducible refine Mod.drew ?_ | (with_reducible refine Mod.set ?_ _ _ (by first | exact .inl rfl | (right; simp; done) | (right; simp; omega) | (left; simp; done) | (left; simp; omega))))


/-- Next asks, the search having not found. -/
theorem rnext_ask (b : Nat) (s : St) (now : Int) (w : World) (hk : s.Ok) (hb : s.bad now = false) (hz : s.size = 0) (ho : s.over = false) (h : RB w b s) :
    Calls Try.prog 29 #[.pointer (some ⟨b, 0, none⟩), .int .i64 now] w fun e w' => e = .returned (.tuple #[.int .i64 (s.asks now).size, .int .i64 (s.asks now).count, .int .i64 0]) ∧ RB w' b (s.asks now) ∧ Mod (· = b) w w' := by
  obtain ⟨l1, l2, l3, l4, n1, n2, s1, s2, k1, k2, -, -, -, -, -, -, -⟩ := hk
  have H := hid h
  obtain ⟨c0, c1, c2, c3, c4, c5, c6, c7, c8, c9, cf, hlt⟩ := rrow_cells h
  obtain ⟨slow, shigh, stop, snow, sover, ssince, ssize, scount, sasked, slost⟩ := s
  dsimp only at *
  have hlt1 : b < w.heap.size + 1 := by omega
  subst ho; subst hz
  simp [St.bad] at hb
  obtain ⟨hb1, hb2⟩ := hb
  clear h
  by_cases ha : (slow + shigh + 1) / 2 = sasked
  · have hfin := hid (show St.asks ⟨slow, shigh, stop, snow, false, ssince, 0, scount, sasked, slost⟩ now = ⟨slow, shigh, stop, now, false, ssince, (slow + shigh + 1) / 2, scount + 1, sasked, slost⟩ by simp [St.asks, ha])
    have ha' : ((slow + shigh + 1) / 2 != sasked) = false := by simp [ha]
    have Ha := hid ha
    clear ha
    go_enter Try.func29, Try.ntmps29
    go_wp2
    all_goals go_region
    all_goals go_wp2
    all_goals go_region
    all_goals go_wp2
    all_goals go_region
    all_goals go_wp2
    all_goals go_ret3
    all_goals refine ⟨by rw [hfin.out, Ha.out]; rfl, ?_, ?_⟩
    · apply Blk.row
      · repeat (first | with_reducible exact H.out | (with_reducible apply Blk.newAt; (simp; done)) | with_reducible apply Blk.alloc | with_reducible apply Blk.drew | with_reducible apply Blk.set | (with_reducible apply Blk.other; · first | (simp; done) | (simp; omega) | omega))
      · rw [hfin.out, Ha.out]; simp [rrow]
    · repeat (first | with_reducible exact Mod.refl _ _ | with_reducible refine Mod.alloc ?_ _ | with_reducible refine Mod.drew ?_ | (with_reducible refine Mod.set ?_ _ _ (by first | exact .inl rfl | (right; simp; done) | (right; simp; omega) | (left; simp; done) | (left; simp; omega))))
  · have hfin := hid (show St.asks ⟨slow, shigh, stop, snow, false, ssince, 0, scount, sasked, slost⟩ now = ⟨slow, shigh, stop, now, false, ssince, (slow + shigh + 1) / 2, scount + 1, (slow + shigh + 1) / 2, 0⟩ by simp [St.asks, ha])
    have ha' : ((slow + shigh + 1) / 2 != sasked) = true := by simp [ha]
    have Ha := hid ha
    clear ha
    go_enter Try.func29, Try.ntmps29
    go_wp2
    all_goals go_region
    all_goals go_wp2
    all_goals go_region
    all_goals go_wp2
    all_goals go_region
    all_goals go_wp2
    all_goals go_ret3
    all_goals refine ⟨by rw [hfin.out]; rfl, ?_, ?_⟩
    · apply Blk.row
      · repeat (first | with_reducible exact H.out | (with_reducible apply Blk.newAt; (simp; done)) | with_reducible apply Blk.alloc | with_reducible apply Blk.drew | with_reducible apply Blk.set | (with_reducible apply Blk.other; · first | (simp; done) | (simp; omega) | omega))
      · rw [hfin.out]; simp [rrow]
    · repeat (first | with_reducible exact Mod.refl _ _ | with_reducible refine Mod.alloc ?_ _ | with_reducible refine Mod.drew ?_ | (with_reducible refine Mod.set ?_ _ _ (by first | exact .inl rfl | (right; simp; done) | (right; simp; omega) | (left; simp; done) | (left; simp; omega))))

/-- Next asks anew. -/
theorem rnext_anew (b : Nat) (s : St) (now : Int) (w : World) (hk : s.Ok) (hb : s.bad now = false) (hz : s.size = 0) (ho : s.over = true) (hr : s.since + 600000 ≤ now) (hn : 16 ≤ s.top - s.low) (h : RB w b s) :
    Calls Try.prog 29 #[.pointer (some ⟨b, 0, none⟩), .int .i64 now] w fun e w' => e = .returned (.tuple #[.int .i64 (s.anew.asks now).size, .int .i64 (s.anew.asks now).count, .int .i64 0]) ∧ RB w' b (s.anew.asks now) ∧ Mod (· = b) w w' := by
  obtain ⟨l1, l2, l3, l4, n1, n2, s1, s2, k1, k2, -, -, -, -, -, -, -⟩ := hk
  have H := hid h
  obtain ⟨c0, c1, c2, c3, c4, c5, c6, c7, c8, c9, cf, hlt⟩ := rrow_cells h
  obtain ⟨slow, shigh, stop, snow, sover, ssince, ssize, scount, sasked, slost⟩ := s
  dsimp only at *
  have hlt1 : b < w.heap.size + 1 := by omega
  subst ho; subst hz
  simp [St.bad] at hb
  obtain ⟨hb1, hb2⟩ := hb
  clear h
  have hset := hid (show St.rsettle ⟨slow, stop, stop, snow, false, ssince, 0, scount, sasked, slost⟩ now = ⟨slow, stop, stop, snow, false, ssince, 0, scount, sasked, slost⟩ by simp [St.rsettle]; omega)
  by_cases ha : (slow + stop + 1) / 2 = sasked
  · have hfin := hid (show St.asks (St.anew ⟨slow, shigh, stop, snow, true, ssince, 0, scount, sasked, slost⟩) now = ⟨slow, stop, stop, now, false, ssince, (slow + stop + 1) / 2, scount + 1, sasked, slost⟩ by simp [St.asks, St.anew, ha])
    have ha' : ((slow + stop + 1) / 2 != sasked) = false := by simp [ha]
    have Ha := hid ha
    clear ha
    go_enter Try.func29, Try.ntmps29
    go_wp2_with fail
    refine (rsettle_any b ⟨slow, stop, stop, snow, false, ssince, 0, scount, sasked, slost⟩ now _ (by dsimp only; omega) ?_).mono ?_
    · apply Blk.row
      · repeat (first | with_reducible exact H.out | (with_reducible apply Blk.newAt; (simp; done)) | with_reducible apply Blk.alloc | with_reducible apply Blk.drew | with_reducible apply Blk.set | (with_reducible apply Blk.other; · first | (simp; done) | (simp; omega) | omega))
      · simp [rrow]
    rintro e w1 ⟨rfl, hB1, hM1⟩
    rw [hset.out] at hB1
    have hB1' := hid hB1
    have hM1' := hid hM1
    obtain ⟨d0, d1, d2, d3, d4, d5, d6, d7, d8, d9, df, dlt⟩ := rrow_cells hB1
    dsimp only at *
    clear c0 c1 c2 c3 c4 c5 c6 c7 c8 c9 cf hB1 hM1
    go_wp2
    all_goals go_region
    all_goals go_wp2
    all_goals go_region
    all_goals go_wp2
    all_goals go_region
    all_goals go_wp2
    all_goals go_ret3
    all_goals refine ⟨by rw [hfin.out, Ha.out]; rfl, ?_, ?_⟩
    · apply Blk.row
      · repeat (first | with_reducible exact hB1'.out | (with_reducible apply Blk.newAt; (simp; done)) | with_reducible apply Blk.alloc | with_reducible apply Blk.drew | with_reducible apply Blk.set | (with_reducible apply Blk.other; · first | (simp; done) | (simp; omega) | omega))
      · rw [hfin.out, Ha.out]; simp [rrow]
    · refine Mod.trans (b := w1) ?_ ?_
      · refine Mod.trans ?_ hM1'.out
        repeat (first | with_reducible exact Mod.refl _ _ | with_reducible refine Mod.alloc ?_ _ | with_reducible refine Mod.drew ?_ | (with_reducible refine Mod.set ?_ _ _ (by first | exact .inl rfl | (right; simp; done) | (right; simp; omega) | (left; simp; done) | (left; simp; omega))))
      · repeat (first | with_reducible exact Mod.refl _ _ | with_reducible refine Mod.alloc ?_ _ | with_reducible refine Mod.drew ?_ | (with_reducible refine Mod.set ?_ _ _ (by first | exact .inl rfl | (right; simp; done) | (right; simp; omega) | (left; simp; done) | (left; simp; omega))))
  · have hfin := hid (show St.asks (St.anew ⟨slow, shigh, stop, snow, true, ssince, 0, scount, sasked, slost⟩) now = ⟨slow, stop, stop, now, false, ssince, (slow + stop + 1) / 2, scount + 1, (slow + stop + 1) / 2, 0⟩ by simp [St.asks, St.anew, ha])
    have ha' : ((slow + stop + 1) / 2 != sasked) = true := by simp [ha]
    have Ha := hid ha
    clear ha
    go_enter Try.func29, Try.ntmps29
    go_wp2_with fail
    refine (rsettle_any b ⟨slow, stop, stop, snow, false, ssince, 0, scount, sasked, slost⟩ now _ (by dsimp only; omega) ?_).mono ?_
    · apply Blk.row
      · repeat (first | with_reducible exact H.out | (with_reducible apply Blk.newAt; (simp; done)) | with_reducible apply Blk.alloc | with_reducible apply Blk.drew | with_reducible apply Blk.set | (with_reducible apply Blk.other; · first | (simp; done) | (simp; omega) | omega))
      · simp [rrow]
    rintro e w1 ⟨rfl, hB1, hM1⟩
    rw [hset.out] at hB1
    have hB1' := hid hB1
    have hM1' := hid hM1
    obtain ⟨d0, d1, d2, d3, d4, d5, d6, d7, d8, d9, df, dlt⟩ := rrow_cells hB1
    dsimp only at *
    clear c0 c1 c2 c3 c4 c5 c6 c7 c8 c9 cf hB1 hM1
    go_wp2
    all_goals go_region
    all_goals go_wp2
    all_goals go_region
    all_goals go_wp2
    all_goals go_region
    all_goals go_wp2
    all_goals go_ret3
    all_goals refine ⟨by rw [hfin.out]; rfl, ?_, ?_⟩
    · apply Blk.row
      · repeat (first | with_reducible exact hB1'.out | (with_reducible apply Blk.newAt; (simp; done)) | with_reducible apply Blk.alloc | with_reducible apply Blk.drew | with_reducible apply Blk.set | (with_reducible apply Blk.other; · first | (simp; done) | (simp; omega) | omega))
      · rw [hfin.out]; simp [rrow]
    · refine Mod.trans (b := w1) ?_ ?_
      · refine Mod.trans ?_ hM1'.out
        repeat (first | with_reducible exact Mod.refl _ _ | with_reducible refine Mod.alloc ?_ _ | with_reducible refine Mod.drew ?_ | (with_reducible refine Mod.set ?_ _ _ (by first | exact .inl rfl | (right; simp; done) | (right; simp; omega) | (left; simp; done) | (left; simp; omega))))
      · repeat (first | with_reducible exact Mod.refl _ _ | with_reducible refine Mod.alloc ?_ _ | with_reducible refine Mod.drew ?_ | (with_reducible refine Mod.set ?_ _ _ (by first | exact .inl rfl | (right; simp; done) | (right; simp; omega) | (left; simp; done) | (left; simp; omega))))
end Go.Proofs.Ytakglmdpaaiclaa
