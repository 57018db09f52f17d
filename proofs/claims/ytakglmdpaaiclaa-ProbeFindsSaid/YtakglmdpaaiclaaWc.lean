/-
  The walks of ended, acked, missed, big, told and of the exported methods that tell. Conditions: the search keeps the bounds of 'St.Ok'.
-/
import Derived.Test.YtakglmdpaaiclaaWb
namespace Go.Proofs.Ytakglmdpaaiclaa
open Go.RowKit


set_option maxHeartbeats 400000 in
theorem ended_range (b : Nat) (s : St) (p : Option Addr) (now number size : Int) (w : World) (hb : number < 1 ∨ size < 0 ∨ s.bad now = true) (h : Blk w b (prow s p) 58) :
    Calls Try.prog 45 #[.pointer (some ⟨b, 0, none⟩), .int .i64 now, .int .i64 number, .int .i64 size] w fun e w' => e = .returned (.tuple #[.int .i64 0, .int .i64 7]) ∧ w = w' := by
  obtain ⟨c0, c1, c2, c3, c4, c5, c6, c7, c8, c9, cf, hlt⟩ := prow_cells h
  obtain ⟨slow, shigh, stop, snow, sover, ssince, ssize, scount, sasked, slost⟩ := s
  dsimp only at *
  simp only [St.bad, decide_eq_true_eq] at hb
  clear h
  by_cases h1 : number < 1
  · clear hb
    go_enter Try.func45, Try.ntmps45
    go_wp2
    go_ret2
    exact ⟨rfl, rfl⟩
  by_cases h2 : size < 0
  · clear hb
    go_enter Try.func45, Try.ntmps45
    go_wp2
    go_ret2
    exact ⟨rfl, rfl⟩
  by_cases h3 : now < snow
  · clear hb
    go_enter Try.func45, Try.ntmps45
    go_wp2
    go_ret2
    exact ⟨rfl, rfl⟩
  · have h4 : 1000000000 < now := by omega
    clear hb
    go_enter Try.func45, Try.ntmps45
    go_wp2
    go_ret2
    exact ⟨rfl, rfl⟩

set_option maxHeartbeats 400000 in
theorem ended_none (b : Nat) (s : St) (p : Option Addr) (now number size : Int) (w : World) (hb : ¬ (number < 1 ∨ size < 0 ∨ s.bad now = true)) (hn : s.size = 0 ∨ s.count ≠ number) (h : Blk w b (prow s p) 58) (hp : Probe w b s p) :
    Calls Try.prog 45 #[.pointer (some ⟨b, 0, none⟩), .int .i64 now, .int .i64 number, .int .i64 size] w fun e w' => e = .returned (.tuple #[.int .i64 0, .int .i64 8]) ∧ w = w' := by
  obtain ⟨c0, c1, c2, c3, c4, c5, c6, c7, c8, c9, cf, hlt⟩ := prow_cells h
  obtain ⟨slow, shigh, stop, snow, sover, ssince, ssize, scount, sasked, slost⟩ := s
  dsimp only at *
  simp only [St.bad, decide_eq_true_eq, not_or, Int.not_lt] at hb
  obtain ⟨g1, g2, g3, g4⟩ := hb
  clear h
  rcases hp with ⟨hz, rfl⟩ | ⟨hz, bp, rfl, hne, hbp⟩
  · clear hz hn
    go_enter Try.func45, Try.ntmps45
    go_wp2
    go_ret2
    exact ⟨rfl, rfl⟩
  · dsimp only at *
    have hq : (scount != number) = true := by simp; rcases hn with hn | hn; exact absurd hn hz; exact hn
    have d1 : w.cell? ⟨bp, 1, none⟩ = some (.int .i64 scount) := hbp.cellv 1 rfl
    clear hn hbp hz
    go_enter Try.func45, Try.ntmps45
    go_wp2
    go_ret2
    exact ⟨rfl, rfl⟩

set_option maxHeartbeats 400000 in
theorem ended_ok (b : Nat) (s : St) (p : Option Addr) (now number size : Int) (w : World) (hb : ¬ (number < 1 ∨ size < 0 ∨ s.bad now = true)) (hn : ¬ (s.size = 0 ∨ s.count ≠ number)) (h : Blk w b (prow s p) 58) (hp : Probe w b s p) :
    Calls Try.prog 45 #[.pointer (some ⟨b, 0, none⟩), .int .i64 now, .int .i64 number, .int .i64 size] w fun e w' => e = .returned (.tuple #[.int .i64 s.size, .int .i64 0]) ∧ Blk w' b (prow (s.ended now) none) 58 ∧ Mod (· = b) w w' := by
  have H := hid h
  obtain ⟨c0, c1, c2, c3, c4, c5, c6, c7, c8, c9, cf, hlt⟩ := prow_cells h
  obtain ⟨slow, shigh, stop, snow, sover, ssince, ssize, scount, sasked, slost⟩ := s
  dsimp only at *
  simp only [St.bad, decide_eq_true_eq, not_or, Int.not_lt] at hb
  obtain ⟨g1, g2, g3, g4⟩ := hb
  clear h
  simp only [not_or, ne_eq, Decidable.not_not] at hn
  obtain ⟨hn1, hn2⟩ := hn
  subst hn2
  rcases hp with ⟨hz, rfl⟩ | ⟨hz, bp, rfl, hne, hbp⟩
  · exact absurd hz hn1
  · dsimp only at *
    have d0 : w.cell? ⟨bp, 0, none⟩ = some (.int .i64 ssize) := hbp.cellv 0 rfl
    have d1 : w.cell? ⟨bp, 1, none⟩ = some (.int .i64 scount) := hbp.cellv 1 rfl
    have hq : (scount != scount) = false := by simp
    clear hbp hz hn1
    go_enter Try.func45, Try.ntmps45
    go_wp2
    go_ret2
    refine ⟨rfl, ?_, ?_⟩
    · apply Blk.row
      · repeat (first | with_reducible exact H.out | (with_reducible apply Blk.newAt; (simp; done)) | with_reducible apply Blk.alloc | with_reducible apply Blk.drew | with_reducible apply Blk.set | (with_reducible apply Blk.other; · first | (simp; done) | (simp; omega) | omega))
      · simp [prow, St.ended]
    · repeat (first | with_reducible exact Mod.refl _ _ | with_reducible refine Mod.alloc ?_ _ | with_reducible refine Mod.drew ?_ | (with_reducible refine Mod.set ?_ _ _ (by first | exact .inl rfl | (right; simp; done) | (right; simp; omega) | (left; simp; done) | (left; simp; omega))))

set_option maxHeartbeats 400000 in
theorem acked_any (b : Nat) (s : St) (p : Option Addr) (n k : Int) (w : World) (h : Blk w b (prow s p) 58) :
    Calls Try.prog 46 #[.pointer (some ⟨b, 0, none⟩), .int .i64 n, .int .i64 k] w fun e w' => e = .returned (.tuple #[]) ∧ Blk w' b (prow (s.acked n) p) 58 ∧ Mod (· = b) w w' := by
  have H := hid h
  obtain ⟨c0, c1, c2, c3, c4, c5, c6, c7, c8, c9, cf, hlt⟩ := prow_cells h
  obtain ⟨slow, shigh, stop, snow, sover, ssince, ssize, scount, sasked, slost⟩ := s
  dsimp only at *
  clear h
  go_enter Try.func46, Try.ntmps46
  go_wp2
  go_end0
  refine ⟨rfl, ?_, ?_⟩
  · apply Blk.row
    · repeat (first | with_reducible exact H.out | (with_reducible apply Blk.newAt; (simp; done)) | with_reducible apply Blk.alloc | with_reducible apply Blk.drew | with_reducible apply Blk.set | (with_reducible apply Blk.other; · first | (simp; done) | (simp; omega) | omega))
    · simp [prow, St.acked]
  · repeat (first | with_reducible exact Mod.refl _ _ | with_reducible refine Mod.alloc ?_ _ | with_reducible refine Mod.drew ?_ | (with_reducible refine Mod.set ?_ _ _ (by first | exact .inl rfl | (right; simp; done) | (right; simp; omega) | (left; simp; done) | (left; simp; omega))))

set_option maxHeartbeats 400000 in
theorem missed_any (b : Nat) (s : St) (p : Option Addr) (n k : Int) (w : World) (hl : 0 ≤ s.lost ∧ s.lost ≤ 2) (hn : 0 ≤ n ∧ n ≤ 20000) (h : Blk w b (prow s p) 58) :
    Calls Try.prog 47 #[.pointer (some ⟨b, 0, none⟩), .int .i64 n, .int .i64 k] w fun e w' => e = .returned (.tuple #[]) ∧ Blk w' b (prow (s.missed n) p) 58 ∧ Mod (· = b) w w' := by
  have H := hid h
  obtain ⟨c0, c1, c2, c3, c4, c5, c6, c7, c8, c9, cf, hlt⟩ := prow_cells h
  obtain ⟨slow, shigh, stop, snow, sover, ssince, ssize, scount, sasked, slost⟩ := s
  dsimp only at *
  clear h
  obtain ⟨l1, l2⟩ := hl
  obtain ⟨n1, n2⟩ := hn
  by_cases hq : slost + 1 = 3
  · have hq' : (slost + 1 == 3) = true := by simp [hq]
    have hfin := hid (show St.missed ⟨slow, shigh, stop, snow, sover, ssince, ssize, scount, sasked, slost⟩ n = ⟨slow, n - 1, stop, snow, sover, ssince, ssize, scount, sasked, 0⟩ by simp [St.missed, hq])
    clear hq
    go_enter Try.func47, Try.ntmps47
    go_wp2
    go_end0
    refine ⟨rfl, ?_, ?_⟩
    · apply Blk.row
      · repeat (first | with_reducible exact H.out | (with_reducible apply Blk.newAt; (simp; done)) | with_reducible apply Blk.alloc | with_reducible apply Blk.drew | with_reducible apply Blk.set | (with_reducible apply Blk.other; · first | (simp; done) | (simp; omega) | omega))
      · rw [hfin.out]; simp [prow]
    · repeat (first | with_reducible exact Mod.refl _ _ | with_reducible refine Mod.alloc ?_ _ | with_reducible refine Mod.drew ?_ | (with_reducible refine Mod.set ?_ _ _ (by first | exact .inl rfl | (right; simp; done) | (right; simp; omega) | (left; simp; done) | (left; simp; omega))))
  · have hq' : (slost + 1 == 3) = false := by simp [hq]
    have hfin := hid (show St.missed ⟨slow, shigh, stop, snow, sover, ssince, ssize, scount, sasked, slost⟩ n = ⟨slow, shigh, stop, snow, sover, ssince, ssize, scount, sasked, slost + 1⟩ by simp [St.missed, hq])
    clear hq
    go_enter Try.func47, Try.ntmps47
    go_wp2
    go_end0
    refine ⟨rfl, ?_, ?_⟩
    · apply Blk.row
      · repeat (first | with_reducible exact H.out | (with_reducible apply Blk.newAt; (simp; done)) | with_reducible apply Blk.alloc | with_reducible apply Blk.drew | with_reducible apply Blk.set | (with_reducible apply Blk.other; · first | (simp; done) | (simp; omega) | omega))
      · rw [hfin.out]; simp [prow]
    · repeat (first | with_reducible exact Mod.refl _ _ | with_reducible refine Mod.alloc ?_ _ | with_reducible refine Mod.drew ?_ | (with_reducible refine Mod.set ?_ _ _ (by first | exact .inl rfl | (right; simp; done) | (right; simp; omega) | (left; simp; done) | (left; simp; omega))))

set_option maxHeartbeats 400000 in
theorem big_any (b : Nat) (s : St) (p : Option Addr) (n k : Int) (w : World) (hn : 0 ≤ n ∧ n ≤ 20000) (h : Blk w b (prow s p) 58) :
    Calls Try.prog 48 #[.pointer (some ⟨b, 0, none⟩), .int .i64 n, .int .i64 k] w fun e w' => e = .returned (.tuple #[]) ∧ Blk w' b (prow (s.big n k) p) 58 ∧ Mod (· = b) w w' := by
  have H := hid h
  obtain ⟨c0, c1, c2, c3, c4, c5, c6, c7, c8, c9, cf, hlt⟩ := prow_cells h
  obtain ⟨slow, shigh, stop, snow, sover, ssince, ssize, scount, sasked, slost⟩ := s
  dsimp only at *
  clear h
  obtain ⟨n1, n2⟩ := hn
  by_cases hq : k < slow
  · have hfin := hid (show St.big ⟨slow, shigh, stop, snow, sover, ssince, ssize, scount, sasked, slost⟩ n k = ⟨slow, n - 1, stop, snow, sover, ssince, ssize, scount, sasked, 0⟩ by simp [St.big, hq])
    go_enter Try.func48, Try.ntmps48
    go_wp2
    go_end0
    refine ⟨rfl, ?_, ?_⟩
    · apply Blk.row
      · repeat (first | with_reducible exact H.out | (with_reducible apply Blk.newAt; (simp; done)) | with_reducible apply Blk.alloc | with_reducible apply Blk.drew | with_reducible apply Blk.set | (with_reducible apply Blk.other; · first | (simp; done) | (simp; omega) | omega))
      · rw [hfin.out]; simp [prow]
    · repeat (first | with_reducible exact Mod.refl _ _ | with_reducible refine Mod.alloc ?_ _ | with_reducible refine Mod.drew ?_ | (with_reducible refine Mod.set ?_ _ _ (by first | exact .inl rfl | (right; simp; done) | (right; simp; omega) | (left; simp; done) | (left; simp; omega))))
  by_cases hr : n ≤ k
  · have hfin := hid (show St.big ⟨slow, shigh, stop, snow, sover, ssince, ssize, scount, sasked, slost⟩ n k = ⟨slow, n - 1, stop, snow, sover, ssince, ssize, scount, sasked, 0⟩ by simp [St.big, hr])
    go_enter Try.func48, Try.ntmps48
    go_wp2
    go_end0
    refine ⟨rfl, ?_, ?_⟩
    · apply Blk.row
      · repeat (first | with_reducible exact H.out | (with_reducible apply Blk.newAt; (simp; done)) | with_reducible apply Blk.alloc | with_reducible apply Blk.drew | with_reducible apply Blk.set | (with_reducible apply Blk.other; · first | (simp; done) | (simp; omega) | omega))
      · rw [hfin.out]; simp [prow]
    · repeat (first | with_reducible exact Mod.refl _ _ | with_reducible refine Mod.alloc ?_ _ | with_reducible refine Mod.drew ?_ | (with_reducible refine Mod.set ?_ _ _ (by first | exact .inl rfl | (right; simp; done) | (right; simp; omega) | (left; simp; done) | (left; simp; omega))))
  · have hfin := hid (show St.big ⟨slow, shigh, stop, snow, sover, ssince, ssize, scount, sasked, slost⟩ n k = ⟨slow, k, stop, snow, sover, ssince, ssize, scount, sasked, 0⟩ by simp [St.big, hr, hq])
    go_enter Try.func48, Try.ntmps48
    go_wp2
    go_end0
    refine ⟨rfl, ?_, ?_⟩
    · apply Blk.row
      · repeat (first | with_reducible exact H.out | (with_reducible apply Blk.newAt; (simp; done)) | with_reducible apply Blk.alloc | with_reducible apply Blk.drew | with_reducible apply Blk.set | (with_reducible apply Blk.other; · first | (simp; done) | (simp; omega) | omega))
      · rw [hfin.out]; simp [prow]
    · repeat (first | with_reducible exact Mod.refl _ _ | with_reducible refine Mod.alloc ?_ _ | with_reducible refine Mod.drew ?_ | (with_reducible refine Mod.set ?_ _ _ (by first | exact .inl rfl | (right; simp; done) | (right; simp; omega) | (left; simp; done) | (left; simp; omega))))

theorem none_any (n k : Int) (w : World) :
    Calls Try.prog 49 #[.int .i64 n, .int .i64 k] w fun e w' => e = .returned (.tuple #[]) ∧ w = w' := by
  go_enter Try.func49, Try.ntmps49
  go_wp2
  go_end0
  exact ⟨rfl, rfl⟩
end Go.Proofs.Ytakglmdpaaiclaa
