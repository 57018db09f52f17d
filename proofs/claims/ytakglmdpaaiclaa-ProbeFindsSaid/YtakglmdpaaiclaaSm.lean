/-
  The walks of Stuck, Size, Range, State, Sent, of the program and of the reference. Conditions: the search keeps the bounds of 'St.Ok'.
-/
import Derived.Test.YtakglmdpaaiclaaWd
import Derived.Test.YtakglmdpaaiclaaRd
namespace Go.Proofs.Ytakglmdpaaiclaa
open Go.RowKit


theorem Size_any (b : Nat) (s : St) (p : Option Addr) (w : World) (h : Blk w b (prow s p) 58) :
    Calls Try.prog 14 #[.pointer (some ⟨b, 0, none⟩)] w fun e w' => e = .returned (.int .i64 s.low) ∧ w = w' := by
  obtain ⟨c0, c1, c2, c3, c4, c5, c6, c7, c8, c9, cf, hlt⟩ := prow_cells h
  obtain ⟨slow, shigh, stop, snow, sover, ssince, ssize, scount, sasked, slost⟩ := s
  dsimp only at *
  clear h
  go_enter Try.func14, Try.ntmps14
  go_wp2
  go_ret
  exact ⟨rfl, rfl⟩
theorem Sent_any (b : Nat) (s : St) (p : Option Addr) (w : World) (h : Blk w b (prow s p) 58) :
    Calls Try.prog 15 #[.pointer (some ⟨b, 0, none⟩)] w fun e w' => e = .returned (.int .i64 s.count) ∧ w = w' := by
  obtain ⟨c0, c1, c2, c3, c4, c5, c6, c7, c8, c9, cf, hlt⟩ := prow_cells h
  obtain ⟨slow, shigh, stop, snow, sover, ssince, ssize, scount, sasked, slost⟩ := s
  dsimp only at *
  clear h
  go_enter Try.func15, Try.ntmps15
  go_wp2
  go_ret
  exact ⟨rfl, rfl⟩
theorem Range_any (b : Nat) (s : St) (p : Option Addr) (w : World) (h : Blk w b (prow s p) 58) :
    Calls Try.prog 18 #[.pointer (some ⟨b, 0, none⟩)] w fun e w' => e = .returned (.tuple #[.int .i64 s.low, .int .i64 s.high]) ∧ New w w' := by
  obtain ⟨c0, c1, c2, c3, c4, c5, c6, c7, c8, c9, cf, hlt⟩ := prow_cells h
  obtain ⟨slow, shigh, stop, snow, sover, ssince, ssize, scount, sasked, slost⟩ := s
  dsimp only at *
  clear h
  go_enter Try.func18, Try.ntmps18
  go_wp2
  all_goals (try go_region)
  all_goals go_wp2
  all_goals go_ret2
  all_goals refine ⟨rfl, ?_⟩
  all_goals repeat (first | with_reducible exact Mod.refl _ _ | with_reducible refine Mod.alloc ?_ _ | with_reducible refine Mod.drew ?_ | (with_reducible refine Mod.set ?_ _ _ (by first | exact .inl rfl | (right; simp; done) | (right; simp; omega) | (left; simp; done) | (left; simp; omega))))
set_option maxHeartbeats 400000 in
theorem State_any (b : Nat) (s : St) (p : Option Addr) (w : World) (hk : s.Ok) (h : Blk w b (prow s p) 58) :
    Calls Try.prog 17 #[.pointer (some ⟨b, 0, none⟩)] w fun e w' => e = .returned (.int .i64 s.state) ∧ New w w' := by
  have HR := hid (fun now w (h : Blk w b (prow s p) 58) => rested_any b s p now w ⟨hk.s1, by have := hk.s2; have := hk.n2; omega⟩ h)
  obtain ⟨l1, l2, l3, l4, n1, n2, s1, s2, -, -, -, -, -, -, -, -, -⟩ := hk
  have H := hid h
  obtain ⟨c0, c1, c2, c3, c4, c5, c6, c7, c8, c9, cf, hlt⟩ := prow_cells h
  obtain ⟨slow, shigh, stop, snow, sover, ssince, ssize, scount, sasked, slost⟩ := s
  dsimp only at *
  clear h
  cases sover with
  | false =>
    go_enter Try.func17, Try.ntmps17
    go_wp2
    go_ret
    exact ⟨rfl, Mod.refl _ _⟩
  | true =>
    by_cases hr : ssince + 600000 ≤ snow
    · have hst := hid (show St.state ⟨slow, shigh, stop, snow, true, ssince, ssize, scount, sasked, slost⟩ = 1 by simp [St.state, hr])
      go_enter Try.func17, Try.ntmps17
      go_wp2_with (go_at_call 39; refine (HR.out _ _ H.out).mono ?_; rintro e w' ⟨rfl, rfl⟩)
      all_goals go_ret
      all_goals refine ⟨by rw [hst.out]; rfl, ?_⟩
      all_goals repeat (first | with_reducible exact Mod.refl _ _ | with_reducible refine Mod.alloc ?_ _ | with_reducible refine Mod.drew ?_ | (with_reducible refine Mod.set ?_ _ _ (by first | exact .inl rfl | (right; simp; done) | (right; simp; omega) | (left; simp; done) | (left; simp; omega))))
    · have hst := hid (show St.state ⟨slow, shigh, stop, snow, true, ssince, ssize, scount, sasked, slost⟩ = 2 by simp [St.state]; omega)
      go_enter Try.func17, Try.ntmps17
      go_wp2_with (go_at_call 39; refine (HR.out _ _ H.out).mono ?_; rintro e w' ⟨rfl, rfl⟩)
      all_goals go_ret
      all_goals refine ⟨by rw [hst.out]; rfl, ?_⟩
      all_goals repeat (first | with_reducible exact Mod.refl _ _ | with_reducible refine Mod.alloc ?_ _ | with_reducible refine Mod.drew ?_ | (with_reducible refine Mod.set ?_ _ _ (by first | exact .inl rfl | (right; simp; done) | (right; simp; omega) | (left; simp; done) | (left; simp; omega))))

theorem ok_stuck0 (s : St) (now : Int) (hk : s.Ok) (hb : s.bad now = false) : 0 ≤ (576 : Int) ∧ (576 : Int) ≤ 20000 ∧ 0 ≤ s.top ∧ s.top ≤ 20000 := by
  have := hk.l1; have := hk.l2; have := hk.l3; have := hk.l4; omega

set_option maxHeartbeats 400000 in
theorem Stuck_any (b : Nat) (s : St) (p : Option Addr) (now : Int) (w : World) (hk : s.Ok) (h : Blk w b (prow s p) 58) (hp : Probe w b s p) :
    Calls Try.prog 27 #[.pointer (some ⟨b, 0, none⟩), .int .i64 now] w (Told b s p w (s.stuckErr now) (s.stuck now)) := by
  by_cases hb : s.bad now = true
  · have he : s.stuckErr now = 7 := by simp [St.stuckErr, hb]
    have ht : s.stuck now = s := by simp [St.stuck, hb]
    rw [he, ht]
    have hc := hid (at_bad b s p now w hb h)
    have H := hid h
    have HP := hid hp
    clear hk hb he ht h hp
    go_enter Try.func27, Try.ntmps27
    go_wp2_with (go_at_call 38; refine hc.out.mono ?_; rintro e w' ⟨rfl, rfl⟩)
    go_ret
    exact ⟨rfl, p, H.out, HP.out, fun _ x => x, Mod.refl _ _⟩
  · have hb0 : s.bad now = false := by simpa using hb
    have he : s.stuckErr now = 0 := by simp [St.stuckErr, hb0]
    have ht : s.stuck now = St.settle { s with now := now, low := 576, high := s.top, size := 0 } := by simp [St.stuck, hb0]
    rw [he, ht]
    have hc := hid (at_ok b s p now w hb0 h)
    have hq := hid (ok_stuck0 s now hk hb0)
    have hz : ({ s with now := now, low := 576, high := s.top, size := 0 } : St).settle.size = 0 := by unfold St.settle; split <;> rfl
    have HZ := hid hz
    have H := hid h
    clear hk hb hb0 he ht hp hz
    obtain ⟨c0, c1, c2, c3, c4, c5, c6, c7, c8, c9, cf, hlt⟩ := prow_cells h
    obtain ⟨slow, shigh, stop, snow, sover, ssince, ssize, scount, sasked, slost⟩ := s
    dsimp only at *
    clear h
    go_enter Try.func27, Try.ntmps27
    go_wp2_with (go_at_call 38; refine hc.out.mono ?_; rintro e w' ⟨rfl, rfl⟩)
    refine (settle_any b ⟨576, stop, stop, now, sover, ssince, 0, scount, sasked, slost⟩ none _ hq.out ?_).mono ?_
    · apply Blk.row
      · repeat (first | with_reducible exact H.out | (with_reducible apply Blk.newAt; (simp; done)) | with_reducible apply Blk.alloc | with_reducible apply Blk.drew | with_reducible apply Blk.set | (with_reducible apply Blk.other; · first | (simp; done) | (simp; omega) | omega))
      · simp [prow]
    rintro e w2 ⟨rfl, hB2, hM2⟩
    have HB2 := hid hB2
    have HM2 := hid hM2
    clear hB2 hM2
    go_wp2
    go_ret
    refine ⟨rfl, none, HB2.out, .inl ⟨HZ.out, rfl⟩, fun _ x => by simp at x, Mod.trans ?_ HM2.out⟩
    repeat (first | with_reducible exact Mod.refl _ _ | with_reducible refine Mod.alloc ?_ _ | with_reducible refine Mod.drew ?_ | (with_reducible refine Mod.set ?_ _ _ (by first | exact .inl rfl | (right; simp; done) | (right; simp; omega) | (left; simp; done) | (left; simp; omega))))

set_option maxHeartbeats 400000 in
theorem rat_bad (b : Nat) (s : St) (now : Int) (w : World) (hb : s.bad now = true) (h : RB w b s) :
    Calls Try.prog 43 #[.pointer (some ⟨b, 0, none⟩), .int .i64 now] w fun e w' => e = .returned (.int .i64 7) ∧ w = w' := by
  obtain ⟨c0, c1, c2, c3, c4, c5, c6, c7, c8, c9, cf, hlt⟩ := rrow_cells h
  obtain ⟨slow, shigh, stop, snow, sover, ssince, ssize, scount, sasked, slost⟩ := s
  dsimp only at *
  simp [St.bad] at hb
  clear h
  by_cases h1 : now < snow
  · clear hb
    go_enter Try.func43, Try.ntmps43
    go_wp2
    go_ret
    exact ⟨rfl, rfl⟩
  · have h2 : 1000000000 < now := by omega
    clear hb
    go_enter Try.func43, Try.ntmps43
    go_wp2
    go_ret
    exact ⟨rfl, rfl⟩
set_option maxHeartbeats 400000 in
theorem rat_ok (b : Nat) (s : St) (now : Int) (w : World) (hb : s.bad now = false) (h : RB w b s) :
    Calls Try.prog 43 #[.pointer (some ⟨b, 0, none⟩), .int .i64 now] w fun e w' => e = .returned (.int .i64 0) ∧ RB w' b { s with now := now } ∧ Mod (· = b) w w' := by
  have H := hid h
  obtain ⟨c0, c1, c2, c3, c4, c5, c6, c7, c8, c9, cf, hlt⟩ := rrow_cells h
  obtain ⟨slow, shigh, stop, snow, sover, ssince, ssize, scount, sasked, slost⟩ := s
  dsimp only at *
  simp [St.bad] at hb
  obtain ⟨hb1, hb2⟩ := hb
  clear h
  go_enter Try.func43, Try.ntmps43
  go_wp2
  go_ret
  refine ⟨rfl, ?_, ?_⟩
  · apply Blk.row
    · repeat (first | with_reducible exact H.out | (with_reducible apply Blk.newAt; (simp; done)) | with_reducible apply Blk.alloc | with_reducible apply Blk.drew | with_reducible apply Blk.set | (with_reducible apply Blk.other; · first | (simp; done) | (simp; omega) | omega))
    · simp [rrow]
  · repeat (first | with_reducible exact Mod.refl _ _ | with_reducible refine Mod.alloc ?_ _ | with_reducible refine Mod.drew ?_ | (with_reducible refine Mod.set ?_ _ _ (by first | exact .inl rfl | (right; simp; done) | (right; simp; omega) | (left; simp; done) | (left; simp; omega))))
set_option maxHeartbeats 400000 in
theorem rStuck_any (b : Nat) (s : St) (now : Int) (w : World) (hk : s.Ok) (h : RB w b s) :
    Calls Try.prog 28 #[.pointer (some ⟨b, 0, none⟩), .int .i64 now] w (RTold b w (s.stuckErr now) (s.stuck now)) := by
  by_cases hb : s.bad now = true
  · have he : s.stuckErr now = 7 := by simp [St.stuckErr, hb]
    have ht : s.stuck now = s := by simp [St.stuck, hb]
    rw [he, ht]
    have hc := hid (rat_bad b s now w hb h)
    have H := hid h
    clear hk hb he ht h
    go_enter Try.func28, Try.ntmps28
    go_wp2_with (go_at_call 43; refine hc.out.mono ?_; rintro e w' ⟨rfl, rfl⟩)
    go_ret
    exact ⟨rfl, H.out, Mod.refl _ _⟩
  · have hb0 : s.bad now = false := by simpa using hb
    have he : s.stuckErr now = 0 := by simp [St.stuckErr, hb0]
    have ht : s.stuck now = St.rsettle ⟨576, s.top, s.top, now, false, s.since, 0, s.count, s.asked, s.lost⟩ now := by
      have := rsettle_eq ⟨576, s.top, s.top, now, false, s.since, 0, s.count, s.asked, s.lost⟩ rfl
      rw [show (⟨576, s.top, s.top, now, false, s.since, 0, s.count, s.asked, s.lost⟩ : St).now = now from rfl] at this
      rw [this]
      simp [St.stuck, hb0, St.settle]
    rw [he, ht]
    have hc := hid (rat_ok b s now w hb0 h)
    have hq := hid (ok_stuck0 s now hk hb0)
    clear hk hb hb0 he ht h
    go_enter Try.func28, Try.ntmps28
    go_wp2_with (go_at_call 43; refine hc.out.mono ?_; rintro e w1 ⟨rfl, hB1, hM1⟩; have HM1 := hid hM1; clear hM1; have HB1 := hid hB1; clear hB1; obtain ⟨d0, d1, d2, d3, d4, d5, d6, d7, d8, d9, df, dlt⟩ := rrow_cells HB1.out; dsimp only at d2)
    refine (rsettle_any b ⟨576, s.top, s.top, now, false, s.since, 0, s.count, s.asked, s.lost⟩ now _ hq.out ?_).mono ?_
    · apply Blk.row
      · repeat (first | with_reducible exact HB1.out | (with_reducible apply Blk.newAt; (simp; done)) | with_reducible apply Blk.alloc | with_reducible apply Blk.drew | with_reducible apply Blk.set | (with_reducible apply Blk.other; · first | (simp; done) | (simp; omega) | omega))
      · simp [rrow]
    rintro e w2 ⟨rfl, hB2, hM2⟩
    have HB2 := hid hB2
    have HM2 := hid hM2
    clear hB2 hM2
    go_wp2
    go_ret
    refine ⟨rfl, HB2.out, Mod.trans ?_ HM2.out⟩
    repeat (first | with_reducible exact HM1.out | with_reducible refine Mod.alloc ?_ _ | with_reducible refine Mod.drew ?_ | (with_reducible refine Mod.set ?_ _ _ (by first | exact .inl rfl | (right; simp; done) | (right; simp; omega) | (left; simp; done) | (left; simp; omega))))

theorem rSize_any (b : Nat) (s : St) (w : World) (h : RB w b s) :
    Calls Try.prog 31 #[.pointer (some ⟨b, 0, none⟩)] w fun e w' => e = .returned (.int .i64 s.low) ∧ w = w' := by
  obtain ⟨c0, c1, c2, c3, c4, c5, c6, c7, c8, c9, cf, hlt⟩ := rrow_cells h
  obtain ⟨slow, shigh, stop, snow, sover, ssince, ssize, scount, sasked, slost⟩ := s
  dsimp only at *
  clear h
  go_enter Try.func31, Try.ntmps31
  go_wp2
  go_ret
  exact ⟨rfl, rfl⟩
theorem rSent_any (b : Nat) (s : St) (w : World) (h : RB w b s) :
    Calls Try.prog 20 #[.pointer (some ⟨b, 0, none⟩)] w fun e w' => e = .returned (.int .i64 s.count) ∧ w = w' := by
  obtain ⟨c0, c1, c2, c3, c4, c5, c6, c7, c8, c9, cf, hlt⟩ := rrow_cells h
  obtain ⟨slow, shigh, stop, snow, sover, ssince, ssize, scount, sasked, slost⟩ := s
  dsimp only at *
  clear h
  go_enter Try.func20, Try.ntmps20
  go_wp2
  go_ret
  exact ⟨rfl, rfl⟩
theorem rRange_any (b : Nat) (s : St) (w : World) (h : RB w b s) :
    Calls Try.prog 30 #[.pointer (some ⟨b, 0, none⟩)] w fun e w' => e = .returned (.tuple #[.int .i64 s.low, .int .i64 s.high]) ∧ New w w' := by
  obtain ⟨c0, c1, c2, c3, c4, c5, c6, c7, c8, c9, cf, hlt⟩ := rrow_cells h
  obtain ⟨slow, shigh, stop, snow, sover, ssince, ssize, scount, sasked, slost⟩ := s
  dsimp only at *
  clear h
  go_enter Try.func30, Try.ntmps30
  go_wp2
  all_goals (try go_region)
  all_goals go_wp2
  all_goals go_ret2
  all_goals refine ⟨rfl, ?_⟩
  all_goals repeat (first | with_reducible exact Mod.refl _ _ | with_reducible refine Mod.alloc ?_ _ | with_reducible refine Mod.drew ?_ | (with_reducible refine Mod.set ?_ _ _ (by first | exact .inl rfl | (right; simp; done) | (right; simp; omega) | (left; simp; done) | (left; simp; omega))))
set_option maxHeartbeats 400000 in
theorem rState_any (b : Nat) (s : St) (w : World) (hk : s.Ok) (h : RB w b s) :
    Calls Try.prog 32 #[.pointer (some ⟨b, 0, none⟩)] w fun e w' => e = .returned (.int .i64 s.state) ∧ New w w' := by
  obtain ⟨l1, l2, l3, l4, n1, n2, s1, s2, -, -, -, -, -, -, -, -, -⟩ := hk
  obtain ⟨c0, c1, c2, c3, c4, c5, c6, c7, c8, c9, cf, hlt⟩ := rrow_cells h
  obtain ⟨slow, shigh, stop, snow, sover, ssince, ssize, scount, sasked, slost⟩ := s
  dsimp only at *
  clear h
  cases sover with
  | false =>
    go_enter Try.func32, Try.ntmps32
    go_wp2
    go_ret
    exact ⟨rfl, Mod.refl _ _⟩
  | true =>
    by_cases hr : ssince + 600000 ≤ snow
    · have hst := hid (show St.state ⟨slow, shigh, stop, snow, true, ssince, ssize, scount, sasked, slost⟩ = 1 by simp [St.state, hr])
      go_enter Try.func32, Try.ntmps32
      go_wp2
      go_region
      all_goals go_wp2
      all_goals go_ret
      all_goals refine ⟨by rw [hst.out]; rfl, ?_⟩
      all_goals repeat (first | with_reducible exact Mod.refl _ _ | with_reducible refine Mod.alloc ?_ _ | with_reducible refine Mod.drew ?_ | (with_reducible refine Mod.set ?_ _ _ (by first | exact .inl rfl | (right; simp; done) | (right; simp; omega) | (left; simp; done) | (left; simp; omega))))
    · have hst := hid (show St.state ⟨slow, shigh, stop, snow, true, ssince, ssize, scount, sasked, slost⟩ = 2 by simp [St.state]; omega)
      go_enter Try.func32, Try.ntmps32
      go_wp2
      go_region
      all_goals go_wp2
      all_goals go_ret
      all_goals refine ⟨by rw [hst.out]; rfl, ?_⟩
      all_goals repeat (first | with_reducible exact Mod.refl _ _ | with_reducible refine Mod.alloc ?_ _ | with_reducible refine Mod.drew ?_ | (with_reducible refine Mod.set ?_ _ _ (by first | exact .inl rfl | (right; simp; done) | (right; simp; omega) | (left; simp; done) | (left; simp; omega))))
end Go.Proofs.Ytakglmdpaaiclaa
