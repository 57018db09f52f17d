/-
  The walks of the reference's search: told, Acked, Lost, Big, Stuck, Size, Range, State, Sent. Conditions: the search keeps the bounds of 'St.Ok'.
-/
import Derived.Test.YtakglmdpaaiclaaRb
namespace Go.Proofs.Ytakglmdpaaiclaa
open Go.RowKit



set_option maxHeartbeats 400000 in
theorem rtold_range (b : Nat) (s : St) (now number : Int) (bad : Bool) (w : World) (hb : number < 1 ∨ bad = true ∨ s.bad now = true) (h : RB w b s) :
    Calls Try.prog 42 #[.pointer (some ⟨b, 0, none⟩), .int .i64 now, .int .i64 number, .bool bad] w fun e w' => e = .returned (.tuple #[.int .i64 0, .int .i64 7]) ∧ w = w' := by
  obtain ⟨c0, c1, c2, c3, c4, c5, c6, c7, c8, c9, cf, hlt⟩ := rrow_cells h
  obtain ⟨slow, shigh, stop, snow, sover, ssince, ssize, scount, sasked, slost⟩ := s
  dsimp only at *
  have hlt1 : b < w.heap.size + 1 := by omega
  simp only [St.bad, decide_eq_true_eq] at hb
  clear h
  by_cases h3 : now < snow
  · clear hb
    go_enter Try.func42, Try.ntmps42
    go_wp2
    go_ret2
    exact ⟨rfl, rfl⟩
  by_cases h4 : 1000000000 < now
  · clear hb
    go_enter Try.func42, Try.ntmps42
    go_wp2
    go_ret2
    exact ⟨rfl, rfl⟩
  by_cases h1 : number < 1
  · clear hb
    go_enter Try.func42, Try.ntmps42
    go_wp2
    go_ret2
    exact ⟨rfl, rfl⟩
  · have h5 : bad = true := by simpa [h1, h3, h4] using hb
    subst h5
    clear hb
    go_enter Try.func42, Try.ntmps42
    go_wp2
    go_ret2
    exact ⟨rfl, rfl⟩

set_option maxHeartbeats 400000 in
theorem rtold_none (b : Nat) (s : St) (now number : Int) (w : World) (hb : ¬ (number < 1 ∨ s.bad now = true)) (hn : s.size = 0 ∨ s.count ≠ number) (h : RB w b s) :
    Calls Try.prog 42 #[.pointer (some ⟨b, 0, none⟩), .int .i64 now, .int .i64 number, .bool false] w fun e w' => e = .returned (.tuple #[.int .i64 0, .int .i64 8]) ∧ w = w' := by
  obtain ⟨c0, c1, c2, c3, c4, c5, c6, c7, c8, c9, cf, hlt⟩ := rrow_cells h
  obtain ⟨slow, shigh, stop, snow, sover, ssince, ssize, scount, sasked, slost⟩ := s
  dsimp only at *
  have hlt1 : b < w.heap.size + 1 := by omega
  simp only [St.bad, decide_eq_true_eq, not_or, Int.not_lt] at hb
  obtain ⟨g1, g3, g4⟩ := hb
  clear h
  by_cases hz : ssize = 0
  · subst hz
    clear hn
    go_enter Try.func42, Try.ntmps42
    go_wp2
    go_ret2
    exact ⟨rfl, rfl⟩
  · have hz' : (ssize == 0) = false := by simp [hz]
    have hq : (number != scount) = true := by simp; rcases hn with hn | hn; exact absurd hn hz; exact fun e => hn e.symm
    clear hn hz
    go_enter Try.func42, Try.ntmps42
    go_wp2
    go_ret2
    exact ⟨rfl, rfl⟩

set_option maxHeartbeats 400000 in
theorem rtold_ok (b : Nat) (s : St) (now number : Int) (w : World) (hb : ¬ (number < 1 ∨ s.bad now = true)) (hn : ¬ (s.size = 0 ∨ s.count ≠ number)) (h : RB w b s) :
    Calls Try.prog 42 #[.pointer (some ⟨b, 0, none⟩), .int .i64 now, .int .i64 number, .bool false] w fun e w' => e = .returned (.tuple #[.int .i64 s.size, .int .i64 0]) ∧ RB w' b (s.ended now) ∧ Mod (· = b) w w' := by
  have H := hid h
  obtain ⟨c0, c1, c2, c3, c4, c5, c6, c7, c8, c9, cf, hlt⟩ := rrow_cells h
  obtain ⟨slow, shigh, stop, snow, sover, ssince, ssize, scount, sasked, slost⟩ := s
  dsimp only at *
  have hlt1 : b < w.heap.size + 1 := by omega
  simp only [St.bad, decide_eq_true_eq, not_or, Int.not_lt] at hb
  obtain ⟨g1, g3, g4⟩ := hb
  clear h
  simp only [not_or, ne_eq, Decidable.not_not] at hn
  obtain ⟨hn1, hn2⟩ := hn
  subst hn2
  have hz' : (ssize == 0) = false := by simp [hn1]
  have hq : (scount != scount) = false := by simp
  clear hn1
  go_enter Try.func42, Try.ntmps42
  go_wp2
  go_ret2
  refine ⟨rfl, ?_, ?_⟩
  · apply Blk.row
    · repeat (first | with_reducible exact H.out | (with_reducible apply Blk.newAt; (simp; done)) | with_reducible apply Blk.alloc | with_reducible apply Blk.drew | with_reducible apply Blk.set | (with_reducible apply Blk.other; · first | (simp; done) | (simp; omega) | omega))
    · simp [rrow, St.ended]
  · repeat (first | with_reducible exact Mod.refl _ _ | with_reducible refine Mod.alloc ?_ _ | with_reducible refine Mod.drew ?_ | (with_reducible refine Mod.set ?_ _ _ (by first | exact .inl rfl | (right; simp; done) | (right; simp; omega) | (left; simp; done) | (left; simp; omega))))

/-- What is told of the reference's search, in one word. -/
def RTold (b : Nat) (w : World) (er : Int) (t : St) (e : Ending) (w' : World) : Prop :=
  e = .returned (.int .i64 er) ∧ RB w' b t ∧ Mod (· = b) w w'

theorem rsettle_eq (s : St) (h : s.over = false) : s.rsettle s.now = s.settle := by
  unfold St.rsettle St.settle
  split
  · rfl
  · cases s; simp only at h; subst h; rfl
theorem size_bd' (s : St) (now number : Int) (hk : s.Ok) (hn : ¬ (s.size = 0 ∨ s.count ≠ number)) : 576 ≤ s.low ∧ s.low ≤ s.size - 1 ∧ s.size ≤ s.high ∧ s.high ≤ 9000 ∧ 0 ≤ s.lost ∧ s.lost ≤ 2 ∧ s.over = false ∧ 16 ≤ s.high - s.low := by
  obtain ⟨l1, l2, l3, l4, -, -, -, -, -, -, -, -, t1, t2, ov, z0, z1⟩ := hk
  simp only [not_or] at hn
  have := z1 hn.1
  refine ⟨by omega, by omega, by omega, by omega, t1, t2, ?_, by omega⟩
  rw [ov]; simp; omega

set_option maxHeartbeats 400000 in
theorem rAcked_any (b : Nat) (s : St) (now number : Int) (w : World) (hk : s.Ok) (h : RB w b s) :
    Calls Try.prog 22 #[.pointer (some ⟨b, 0, none⟩), .int .i64 now, .int .i64 number] w (RTold b w (s.endErr now number 0) (s.told now number 0 0)) := by
  by_cases hb : number < 1 ∨ s.bad now = true
  · have he : s.endErr now number 0 = 7 := by simp [St.endErr, hb]
    have ht : s.told now number 0 0 = s := by simp [St.told, he]
    rw [he, ht]
    have hc := hid (rtold_range b s now number false w (by simpa using hb) h)
    have H := hid h
    clear h hb he ht hk
    go_enter Try.func22, Try.ntmps22
    go_wp2_with (go_at_call 42; refine hc.out.mono ?_; rintro e w' ⟨rfl, rfl⟩)
    go_ret
    exact ⟨rfl, H.out, Mod.refl _ _⟩
  by_cases hn : s.size = 0 ∨ s.count ≠ number
  · have he : s.endErr now number 0 = 8 := by simp [St.endErr, hb, hn]
    have ht : s.told now number 0 0 = s := by simp [St.told, he]
    rw [he, ht]
    have hc := hid (rtold_none b s now number w hb hn h)
    have H := hid h
    clear h hb hn he ht hk
    go_enter Try.func22, Try.ntmps22
    go_wp2_with (go_at_call 42; refine hc.out.mono ?_; rintro e w' ⟨rfl, rfl⟩)
    go_ret
    exact ⟨rfl, H.out, Mod.refl _ _⟩
  · have he : s.endErr now number 0 = 0 := by simp [St.endErr, hb, hn]
    have hbd := size_bd' s now number hk hn
    have ht : s.told now number 0 0 = ((s.ended now).acked s.size).rsettle now := by
      have := rsettle_eq ((s.ended now).acked s.size) hbd.2.2.2.2.2.2.1
      simp only [St.told, he, St.fate]; exact this.symm
    rw [he, ht]
    have hc := hid (rtold_ok b s now number w hb hn h)
    have Hbd := hid hbd
    clear h hb hn he ht hk hbd
    go_enter Try.func22, Try.ntmps22
    go_wp2_with (go_at_call 42; refine hc.out.mono ?_; rintro e w1 ⟨rfl, hB1, hM1⟩; have HM1 := hid hM1; clear hM1; have HB1 := hid hB1; clear hB1; obtain ⟨d0, d1, d2, d3, d4, d5, d6, d7, d8, d9, df, dlt⟩ := rrow_cells HB1.out)
    refine (rsettle_any b ((s.ended now).acked s.size) now _ (by have := Hbd.out; simp only [St.acked, St.ended]; omega) ?_).mono ?_
    · apply Blk.row
      · repeat (first | with_reducible exact HB1.out | (with_reducible apply Blk.newAt; (simp; done)) | with_reducible apply Blk.alloc | with_reducible apply Blk.drew | with_reducible apply Blk.set | (with_reducible apply Blk.other; · first | (simp; done) | (simp; omega) | omega))
      · simp [rrow, St.acked]
    rintro e w2 ⟨rfl, hB2, hM2⟩
    have HB2 := hid hB2
    have HM2 := hid hM2
    clear hB2 hM2
    go_wp2
    go_ret
    refine ⟨rfl, HB2.out, Mod.trans ?_ HM2.out⟩
    repeat (first | with_reducible exact HM1.out | with_reducible refine Mod.alloc ?_ _ | with_reducible refine Mod.drew ?_ | (with_reducible refine Mod.set ?_ _ _ (by first | exact .inl rfl | (right; simp; done) | (right; simp; omega) | (left; simp; done) | (left; simp; omega))))
end Go.Proofs.Ytakglmdpaaiclaa
