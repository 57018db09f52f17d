/-
  The walks of the reference's search: Lost, Big, Stuck, Size, Range, State, Sent. Conditions: the search keeps the bounds of 'St.Ok'.
-/
import Derived.Test.YtakglmdpaaiclaaRc
namespace Go.Proofs.Ytakglmdpaaiclaa
open Go.RowKit



set_option maxHeartbeats 400000 in
theorem rLost_err (b : Nat) (s : St) (now number er : Int) (o : Bool) (w : World) (h : RB w b s) (her : (er != 0) = true)
    (hc0 : Calls Try.prog 42 #[.pointer (some ⟨b, 0, none⟩), .int .i64 now, .int .i64 number, .bool false] w fun e w' => e = .returned (.tuple #[.int .i64 0, .int .i64 er]) ∧ w = w') :
    Calls Try.prog 24 #[.pointer (some ⟨b, 0, none⟩), .int .i64 now, .int .i64 number, .bool o] w (RTold b w er s) := by
  have hc := hid hc0
  clear hc0
  have H := hid h
  clear h
  go_enter Try.func24, Try.ntmps24
  go_wp2_with (go_at_call 42; refine hc.out.mono ?_; rintro e w' ⟨rfl, rfl⟩)
  go_ret
  exact ⟨rfl, H.out, Mod.refl _ _⟩

theorem settle_same (s : St) (hov : s.over = false) (h : 16 ≤ s.high - s.low) : s.settle = s := by
  unfold St.settle
  rw [if_neg (by omega)]
  cases s; simp only at hov; subst hov; rfl

set_option maxHeartbeats 400000 in
theorem rLost_yes (b : Nat) (s : St) (now number : Int) (w : World) (hk : s.Ok) (h : RB w b s) :
    Calls Try.prog 24 #[.pointer (some ⟨b, 0, none⟩), .int .i64 now, .int .i64 number, .bool true] w (RTold b w (s.endErr now number 0) (s.told now number 0 3)) := by
  by_cases hb : number < 1 ∨ s.bad now = true
  · have he : s.endErr now number 0 = 7 := by simp [St.endErr, hb]
    have ht : s.told now number 0 3 = s := by simp [St.told, he]
    rw [he, ht]
    exact rLost_err b s now number 7 true w h (by decide) (rtold_range b s now number false w (by simpa using hb) h)
  by_cases hn : s.size = 0 ∨ s.count ≠ number
  · have he : s.endErr now number 0 = 8 := by simp [St.endErr, hb, hn]
    have ht : s.told now number 0 3 = s := by simp [St.told, he]
    rw [he, ht]
    exact rLost_err b s now number 8 true w h (by decide) (rtold_none b s now number w hb hn h)
  · have he : s.endErr now number 0 = 0 := by simp [St.endErr, hb, hn]
    have hbd := size_bd' s now number hk hn
    have ht : s.told now number 0 3 = s.ended now := by
      have := settle_same (s.ended now) hbd.2.2.2.2.2.2.1 hbd.2.2.2.2.2.2.2
      simp only [St.told, he, St.fate]; exact this
    rw [he, ht]
    have hc := hid (rtold_ok b s now number w hb hn h)
    clear h hb hn he ht hk hbd
    go_enter Try.func24, Try.ntmps24
    go_wp2_with (go_at_call 42; refine hc.out.mono ?_; rintro e w1 ⟨rfl, hB1, hM1⟩; have HM1 := hid hM1; clear hM1; have HB1 := hid hB1; clear hB1; obtain ⟨d0, d1, d2, d3, d4, d5, d6, d7, d8, d9, df, dlt⟩ := rrow_cells HB1.out)
    go_ret
    exact ⟨rfl, HB1.out, HM1.out⟩

set_option maxHeartbeats 400000 in
theorem rLost_no (b : Nat) (s : St) (now number : Int) (w : World) (hk : s.Ok) (h : RB w b s) :
    Calls Try.prog 24 #[.pointer (some ⟨b, 0, none⟩), .int .i64 now, .int .i64 number, .bool false] w (RTold b w (s.endErr now number 0) (s.told now number 0 1)) := by
  by_cases hb : number < 1 ∨ s.bad now = true
  · have he : s.endErr now number 0 = 7 := by simp [St.endErr, hb]
    have ht : s.told now number 0 1 = s := by simp [St.told, he]
    rw [he, ht]
    exact rLost_err b s now number 7 false w h (by decide) (rtold_range b s now number false w (by simpa using hb) h)
  by_cases hn : s.size = 0 ∨ s.count ≠ number
  · have he : s.endErr now number 0 = 8 := by simp [St.endErr, hb, hn]
    have ht : s.told now number 0 1 = s := by simp [St.told, he]
    rw [he, ht]
    exact rLost_err b s now number 8 false w h (by decide) (rtold_none b s now number w hb hn h)
  · have he : s.endErr now number 0 = 0 := by simp [St.endErr, hb, hn]
    have hbd := size_bd' s now number hk hn
    by_cases hq : s.lost + 1 = 3
    · have ht : s.told now number 0 1 = (({ s.ended now with high := s.size - 1, lost := 0 } : St)).rsettle now := by
        have := rsettle_eq ({ s.ended now with high := s.size - 1, lost := 0 } : St) hbd.2.2.2.2.2.2.1
        unfold St.told
        rw [if_pos he]
        show ((s.ended now).missed s.size).settle = _
        unfold St.missed
        rw [if_pos (show (s.ended now).lost + 1 = 3 from hq)]
        exact this.symm
      rw [he, ht]
      have hc := hid (rtold_ok b s now number w hb hn h)
      have Hbd := hid hbd
      obtain ⟨b1, b2, b3, b4, b5, b6, -, -⟩ := hbd
      have hq' : (s.lost + 1 == 3) = true := by simp [hq]
      clear h hb hn he ht hk hq
      go_enter Try.func24, Try.ntmps24
      go_wp2_with (go_at_call 42; refine hc.out.mono ?_; rintro e w1 ⟨rfl, hB1, hM1⟩; have HM1 := hid hM1; clear hM1; have HB1 := hid hB1; clear hB1; obtain ⟨d0, d1, d2, d3, d4, d5, d6, d7, d8, d9, df, dlt⟩ := rrow_cells HB1.out; dsimp only [St.ended] at d8)
      refine (rsettle_any b ({ s.ended now with high := s.size - 1, lost := 0 } : St) now _ (by simp only [St.ended]; omega) ?_).mono ?_
      · apply Blk.row
        · repeat (first | with_reducible exact HB1.out | (with_reducible apply Blk.newAt; (simp; done)) | with_reducible apply Blk.alloc | with_reducible apply Blk.drew | with_reducible apply Blk.set | (with_reducible apply Blk.other; · first | (simp; done) | (simp; omega) | omega))
        · simp [rrow, St.ended]
      rintro e w2 ⟨rfl, hB2, hM2⟩
      have HB2 := hid hB2
      have HM2 := hid hM2
      clear hB2 hM2
      go_wp2
      go_ret
      refine ⟨rfl, HB2.out, Mod.trans ?_ HM2.out⟩
      repeat (first | with_reducible exact HM1.out | with_reducible refine Mod.alloc ?_ _ | with_reducible refine Mod.drew ?_ | (with_reducible refine Mod.set ?_ _ _ (by first | exact .inl rfl | (right; simp; done) | (right; simp; omega) | (left; simp; done) | (left; simp; omega))))
    · have ht : s.told now number 0 1 = ({ s.ended now with lost := s.lost + 1 } : St) := by
        have := settle_same ({ s.ended now with lost := s.lost + 1 } : St) hbd.2.2.2.2.2.2.1 hbd.2.2.2.2.2.2.2
        unfold St.told
        rw [if_pos he]
        show ((s.ended now).missed s.size).settle = _
        unfold St.missed
        rw [if_neg (show ¬ (s.ended now).lost + 1 = 3 from hq)]
        exact this
      rw [he, ht]
      have hc := hid (rtold_ok b s now number w hb hn h)
      obtain ⟨b1, b2, b3, b4, b5, b6, -, -⟩ := hbd
      have hq' : (s.lost + 1 == 3) = false := by simp [hq]
      clear h hb hn he ht hk hq
      go_enter Try.func24, Try.ntmps24
      go_wp2_with (go_at_call 42; refine hc.out.mono ?_; rintro e w1 ⟨rfl, hB1, hM1⟩; have HM1 := hid hM1; clear hM1; have HB1 := hid hB1; clear hB1; obtain ⟨d0, d1, d2, d3, d4, d5, d6, d7, d8, d9, df, dlt⟩ := rrow_cells HB1.out; dsimp only [St.ended] at d8)
      go_ret
      refine ⟨rfl, ?_, ?_⟩
      · apply Blk.row
        · repeat (first | with_reducible exact HB1.out | (with_reducible apply Blk.newAt; (simp; done)) | with_reducible apply Blk.alloc | with_reducible apply Blk.drew | with_reducible apply Blk.set | (with_reducible apply Blk.other; · first | (simp; done) | (simp; omega) | omega))
        · simp [rrow, St.ended]
      · repeat (first | with_reducible exact HM1.out | with_reducible refine Mod.alloc ?_ _ | with_reducible refine Mod.drew ?_ | (with_reducible refine Mod.set ?_ _ _ (by first | exact .inl rfl | (right; simp; done) | (right; simp; omega) | (left; simp; done) | (left; simp; omega))))


set_option maxHeartbeats 400000 in
theorem rBig_any (b : Nat) (s : St) (now number size : Int) (w : World) (hk : s.Ok) (h : RB w b s) :
    Calls Try.prog 26 #[.pointer (some ⟨b, 0, none⟩), .int .i64 now, .int .i64 number, .int .i64 size] w (RTold b w (s.endErr now number size) (s.told now number size 2)) := by
  by_cases hz : size < 0
  · have he : s.endErr now number size = 7 := by simp [St.endErr, hz]
    have ht : s.told now number size 2 = s := by simp [St.told, he]
    rw [he, ht]
    have hd : decide (size < 0) = true := by simpa using hz
    clear hz he ht hk
    have H := hid h
    have hc := hid (rtold_range b s now number true w (by simp) h)
    clear h
    go_enter Try.func26, Try.ntmps26
    go_wp2_with (go_at_call 42; refine hc.out.mono ?_; rintro e w' ⟨rfl, rfl⟩)
    go_ret
    exact ⟨rfl, H.out, Mod.refl _ _⟩
  have hd : decide (size < 0) = false := by simpa using hz
  by_cases hb : number < 1 ∨ s.bad now = true
  · have he : s.endErr now number size = 7 := by
      have : number < 1 ∨ size < 0 ∨ s.bad now = true := by rcases hb with h | h <;> simp [h]
      simp [St.endErr, this]
    have ht : s.told now number size 2 = s := by simp [St.told, he]
    rw [he, ht]
    have hb' := hid (show number < 1 ∨ false = true ∨ s.bad now = true by simpa using hb)
    clear he ht hk hb
    have H := hid h
    have hc := hid (rtold_range b s now number false w hb'.out h)
    clear h
    go_enter Try.func26, Try.ntmps26
    go_wp2_with (go_at_call 42; refine hc.out.mono ?_; rintro e w' ⟨rfl, rfl⟩)
    go_ret
    exact ⟨rfl, H.out, Mod.refl _ _⟩
  have hb0 : ¬ (number < 1 ∨ size < 0 ∨ s.bad now = true) := by simp only [not_or] at hb ⊢; exact ⟨hb.1, hz, hb.2⟩
  by_cases hn : s.size = 0 ∨ s.count ≠ number
  · have he : s.endErr now number size = 8 := by simp [St.endErr, hb0, hn]
    have ht : s.told now number size 2 = s := by simp [St.told, he]
    rw [he, ht]
    have hb' := hid hb
    have hn' := hid hn
    clear he ht hk hb hn hb0
    have H := hid h
    have hc := hid (rtold_none b s now number w hb'.out hn'.out h)
    clear h
    go_enter Try.func26, Try.ntmps26
    go_wp2_with (go_at_call 42; refine hc.out.mono ?_; rintro e w' ⟨rfl, rfl⟩)
    go_ret
    exact ⟨rfl, H.out, Mod.refl _ _⟩
  · have he : s.endErr now number size = 0 := by simp [St.endErr, hb0, hn]
    have hbd := size_bd' s now number hk hn
    have ht : s.told now number size 2 = ((s.ended now).big s.size size).rsettle now := by
      have := rsettle_eq ((s.ended now).big s.size size) hbd.2.2.2.2.2.2.1
      unfold St.told
      rw [if_pos he]
      exact this.symm
    rw [he, ht]
    have hc := hid (rtold_ok b s now number w hb hn h)
    obtain ⟨b1, b2, b3, b4, b5, b6, -, -⟩ := hbd
    clear h hb hn he ht hk hb0
    by_cases hq : size < s.low
    · have hfin := hid (show (s.ended now).big s.size size = ({ s.ended now with high := s.size - 1, lost := 0 } : St) by simp [St.big, St.ended, hq])
      go_enter Try.func26, Try.ntmps26
      go_wp2_with (go_at_call 42; refine hc.out.mono ?_; rintro e w1 ⟨rfl, hB1, hM1⟩; have HM1 := hid hM1; clear hM1; have HB1 := hid hB1; clear hB1; obtain ⟨d0, d1, d2, d3, d4, d5, d6, d7, d8, d9, df, dlt⟩ := rrow_cells HB1.out; dsimp only [St.ended] at d0)
      refine (rsettle_any b ({ s.ended now with high := s.size - 1, lost := 0 } : St) now _ (by simp only [St.ended]; omega) ?_).mono ?_
      · apply Blk.row
        · repeat (first | with_reducible exact HB1.out | (with_reducible apply Blk.newAt; (simp; done)) | with_reducible apply Blk.alloc | with_reducible apply Blk.drew | with_reducible apply Blk.set | (with_reducible apply Blk.other; · first | (simp; done) | (simp; omega) | omega))
        · simp [rrow, St.ended]
      rintro e w2 ⟨rfl, hB2, hM2⟩
      have HB2 := hid hB2
      have HM2 := hid hM2
      clear hB2 hM2
      go_wp2
      go_ret
      refine ⟨rfl, by rw [hfin.out]; exact HB2.out, Mod.trans ?_ HM2.out⟩
      repeat (first | with_reducible exact HM1.out | with_reducible refine Mod.alloc ?_ _ | with_reducible refine Mod.drew ?_ | (with_reducible refine Mod.set ?_ _ _ (by first | exact .inl rfl | (right; simp; done) | (right; simp; omega) | (left; simp; done) | (left; simp; omega))))
    by_cases hr : s.size - 1 < size
    · have hfin := hid (show (s.ended now).big s.size size = ({ s.ended now with high := s.size - 1, lost := 0 } : St) by simp [St.big, St.ended, hq]; omega)
      go_enter Try.func26, Try.ntmps26
      go_wp2_with (go_at_call 42; refine hc.out.mono ?_; rintro e w1 ⟨rfl, hB1, hM1⟩; have HM1 := hid hM1; clear hM1; have HB1 := hid hB1; clear hB1; obtain ⟨d0, d1, d2, d3, d4, d5, d6, d7, d8, d9, df, dlt⟩ := rrow_cells HB1.out; dsimp only [St.ended] at d0)
      refine (rsettle_any b ({ s.ended now with high := s.size - 1, lost := 0 } : St) now _ (by simp only [St.ended]; omega) ?_).mono ?_
      · apply Blk.row
        · repeat (first | with_reducible exact HB1.out | (with_reducible apply Blk.newAt; (simp; done)) | with_reducible apply Blk.alloc | with_reducible apply Blk.drew | with_reducible apply Blk.set | (with_reducible apply Blk.other; · first | (simp; done) | (simp; omega) | omega))
        · simp [rrow, St.ended]
      rintro e w2 ⟨rfl, hB2, hM2⟩
      have HB2 := hid hB2
      have HM2 := hid hM2
      clear hB2 hM2
      go_wp2
      go_ret
      refine ⟨rfl, by rw [hfin.out]; exact HB2.out, Mod.trans ?_ HM2.out⟩
      repeat (first | with_reducible exact HM1.out | with_reducible refine Mod.alloc ?_ _ | with_reducible refine Mod.drew ?_ | (with_reducible refine Mod.set ?_ _ _ (by first | exact .inl rfl | (right; simp; done) | (right; simp; omega) | (left; simp; done) | (left; simp; omega))))
    · have hfin := hid (show (s.ended now).big s.size size = ({ s.ended now with high := size, lost := 0 } : St) by simp [St.big, St.ended, hq]; omega)
      go_enter Try.func26, Try.ntmps26
      go_wp2_with (go_at_call 42; refine hc.out.mono ?_; rintro e w1 ⟨rfl, hB1, hM1⟩; have HM1 := hid hM1; clear hM1; have HB1 := hid hB1; clear hB1; obtain ⟨d0, d1, d2, d3, d4, d5, d6, d7, d8, d9, df, dlt⟩ := rrow_cells HB1.out; dsimp only [St.ended] at d0)
      refine (rsettle_any b ({ s.ended now with high := size, lost := 0 } : St) now _ (by simp only [St.ended]; omega) ?_).mono ?_
      · apply Blk.row
        · repeat (first | with_reducible exact HB1.out | (with_reducible apply Blk.newAt; (simp; done)) | with_reducible apply Blk.alloc | with_reducible apply Blk.drew | with_reducible apply Blk.set | (with_reducible apply Blk.other; · first | (simp; done) | (simp; omega) | omega))
        · simp [rrow, St.ended]
      rintro e w2 ⟨rfl, hB2, hM2⟩
      have HB2 := hid hB2
      have HM2 := hid hM2
      clear hB2 hM2
      go_wp2
      go_ret
      refine ⟨rfl, by rw [hfin.out]; exact HB2.out, Mod.trans ?_ HM2.out⟩
      repeat (first | with_reducible exact HM1.out | with_reducible refine Mod.alloc ?_ _ | with_reducible refine Mod.drew ?_ | (with_reducible refine Mod.set ?_ _ _ (by first | exact .inl rfl | (right; simp; done) | (right; simp; omega) | (left; simp; done) | (left; simp; omega))))
end Go.Proofs.Ytakglmdpaaiclaa
