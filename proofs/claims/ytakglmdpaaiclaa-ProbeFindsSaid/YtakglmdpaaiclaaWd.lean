/-
  The walks of told, Acked, Lost, Big, Stuck, Size, Range, State, Sent of package probe. Conditions: the search keeps the bounds of 'St.Ok'.
-/
import Derived.Test.YtakglmdpaaiclaaWc
namespace Go.Proofs.Ytakglmdpaaiclaa
open Go.RowKit


set_option maxHeartbeats 400000 in
theorem told_err (b : Nat) (now number size what er : Int) (w : World) (her : (er != 0) = true)
    (hc : Calls Try.prog 45 #[.pointer (some ⟨b, 0, none⟩), .int .i64 now, .int .i64 number, .int .i64 size] w fun e w' => e = .returned (.tuple #[.int .i64 0, .int .i64 er]) ∧ w = w') :
    Calls Try.prog 41 #[.pointer (some ⟨b, 0, none⟩), .int .i64 now, .int .i64 number, .int .i64 size, .int .i64 what] w fun e w' => e = .returned (.int .i64 er) ∧ w = w' := by
  have HC := hid hc
  clear hc
  go_enter Try.func41, Try.ntmps41
  go_wp2_with (go_at_call 45; refine HC.out.mono ?_; rintro e w' ⟨rfl, rfl⟩)
  go_ret
  exact ⟨rfl, rfl⟩


theorem size_bd (s : St) (now number : Int) (hk : s.Ok) (hn : ¬ (s.size = 0 ∨ s.count ≠ number)) : 576 ≤ s.low ∧ s.low ≤ s.size - 1 ∧ s.size ≤ s.high ∧ s.high ≤ 9000 ∧ 0 ≤ s.lost ∧ s.lost ≤ 2 ∧ s.over = false := by
  obtain ⟨l1, l2, l3, l4, -, -, -, -, -, -, -, -, t1, t2, ov, z0, z1⟩ := hk
  simp only [not_or] at hn
  have := z1 hn.1
  refine ⟨by omega, by omega, by omega, by omega, t1, t2, ?_⟩
  rw [ov]; simp; omega


set_option maxHeartbeats 400000 in
theorem told_acked (b : Nat) (s : St) (p : Option Addr) (now number size : Int) (w : World) (hk : s.Ok) (hb : ¬ (number < 1 ∨ size < 0 ∨ s.bad now = true)) (hn : ¬ (s.size = 0 ∨ s.count ≠ number)) (h : Blk w b (prow s p) 58) (hp : Probe w b s p) :
    Calls Try.prog 41 #[.pointer (some ⟨b, 0, none⟩), .int .i64 now, .int .i64 number, .int .i64 size, .int .i64 0] w fun e w' => e = .returned (.int .i64 0) ∧ Blk w' b (prow (St.settle ((s.ended now).acked s.size)) none) 58 ∧ Mod (· = b) w w' := by
  have hc := hid (ended_ok b s p now number size w hb hn h hp)
  have Hlo := hid (size_bd s now number hk hn)
  have hlt := h.lt
  clear hb hn hk h hp
  go_enter Try.func41, Try.ntmps41
  go_wp2_with (first | (go_at_call 45; refine hc.out.mono ?_; rintro e w1 ⟨rfl, hB1, hM1⟩; have HB1 := hid hB1; clear hB1; have HM1 := hid hM1; clear hM1) | (go_at_call 46; refine (acked_any b _ none _ _ _ (HB1.out.alloc _)).mono ?_; rintro e w2 ⟨rfl, hB2, hM2⟩; have HB2 := hid hB2; clear hB2; have HM2 := hid hM2; clear hM2) | (go_at_call 37; refine (settle_any b _ none _ (by have := Hlo.out; simp only [St.acked, St.ended]; omega) HB2.out).mono ?_; rintro e w3 ⟨rfl, hB3, hM3⟩; have HB3 := hid hB3; clear hB3; have HM3 := hid hM3; clear hM3))
  go_ret
  exact ⟨rfl, HB3.out, ((HM1.out.alloc _).trans HM2.out).trans HM3.out⟩
set_option maxHeartbeats 400000 in
theorem told_missed (b : Nat) (s : St) (p : Option Addr) (now number size : Int) (w : World) (hk : s.Ok) (hb : ¬ (number < 1 ∨ size < 0 ∨ s.bad now = true)) (hn : ¬ (s.size = 0 ∨ s.count ≠ number)) (h : Blk w b (prow s p) 58) (hp : Probe w b s p) :
    Calls Try.prog 41 #[.pointer (some ⟨b, 0, none⟩), .int .i64 now, .int .i64 number, .int .i64 size, .int .i64 1] w fun e w' => e = .returned (.int .i64 0) ∧ Blk w' b (prow (St.settle ((s.ended now).missed s.size)) none) 58 ∧ Mod (· = b) w w' := by
  have hc := hid (ended_ok b s p now number size w hb hn h hp)
  have Hlo := hid (size_bd s now number hk hn)
  have hlt := h.lt
  clear hb hn hk h hp
  have hm := hid (show 0 ≤ ((s.ended now).missed s.size).low ∧ ((s.ended now).missed s.size).low ≤ 20000 ∧ 0 ≤ ((s.ended now).missed s.size).high ∧ ((s.ended now).missed s.size).high ≤ 20000 by have := Hlo.out; unfold St.missed; split <;> simp only [St.ended] <;> omega)
  go_enter Try.func41, Try.ntmps41
  go_wp2_with (first | (go_at_call 45; refine hc.out.mono ?_; rintro e w1 ⟨rfl, hB1, hM1⟩; have HB1 := hid hB1; clear hB1; have HM1 := hid hM1; clear hM1) | (go_at_call 47; refine (missed_any b (s.ended now) none _ _ _ (by have := Hlo.out; simp only [St.ended]; omega) (by have := Hlo.out; omega) (HB1.out.alloc _)).mono ?_; rintro e w2 ⟨rfl, hB2, hM2⟩; have HB2 := hid hB2; clear hB2; have HM2 := hid hM2; clear hM2) | (go_at_call 37; refine (settle_any b _ none _ (by exact hm.out) HB2.out).mono ?_; rintro e w3 ⟨rfl, hB3, hM3⟩; have HB3 := hid hB3; clear hB3; have HM3 := hid hM3; clear hM3))
  go_ret
  exact ⟨rfl, HB3.out, ((HM1.out.alloc _).trans HM2.out).trans HM3.out⟩
set_option maxHeartbeats 400000 in
theorem told_big (b : Nat) (s : St) (p : Option Addr) (now number size : Int) (w : World) (hk : s.Ok) (hb : ¬ (number < 1 ∨ size < 0 ∨ s.bad now = true)) (hn : ¬ (s.size = 0 ∨ s.count ≠ number)) (h : Blk w b (prow s p) 58) (hp : Probe w b s p) :
    Calls Try.prog 41 #[.pointer (some ⟨b, 0, none⟩), .int .i64 now, .int .i64 number, .int .i64 size, .int .i64 2] w fun e w' => e = .returned (.int .i64 0) ∧ Blk w' b (prow (St.settle ((s.ended now).big s.size size)) none) 58 ∧ Mod (· = b) w w' := by
  have hc := hid (ended_ok b s p now number size w hb hn h hp)
  have Hlo := hid (size_bd s now number hk hn)
  have hlt := h.lt
  clear hb hn hk h hp
  have hm := hid (show 0 ≤ ((s.ended now).big s.size size).low ∧ ((s.ended now).big s.size size).low ≤ 20000 ∧ 0 ≤ ((s.ended now).big s.size size).high ∧ ((s.ended now).big s.size size).high ≤ 20000 by have := Hlo.out; simp only [St.big, St.ended]; by_cases hq : (size < s.low ∨ s.size ≤ size) <;> simp [hq] <;> omega)
  go_enter Try.func41, Try.ntmps41
  go_wp2_with (first | (go_at_call 45; refine hc.out.mono ?_; rintro e w1 ⟨rfl, hB1, hM1⟩; have HB1 := hid hB1; clear hB1; have HM1 := hid hM1; clear hM1) | (go_at_call 48; refine (big_any b (s.ended now) none _ _ _ (by have := Hlo.out; omega) (HB1.out.alloc _)).mono ?_; rintro e w2 ⟨rfl, hB2, hM2⟩; have HB2 := hid hB2; clear hB2; have HM2 := hid hM2; clear hM2) | (go_at_call 37; refine (settle_any b _ none _ (by exact hm.out) HB2.out).mono ?_; rintro e w3 ⟨rfl, hB3, hM3⟩; have HB3 := hid hB3; clear hB3; have HM3 := hid hM3; clear hM3))
  go_ret
  exact ⟨rfl, HB3.out, ((HM1.out.alloc _).trans HM2.out).trans HM3.out⟩
set_option maxHeartbeats 400000 in
theorem told_none (b : Nat) (s : St) (p : Option Addr) (now number size : Int) (w : World) (hk : s.Ok) (hb : ¬ (number < 1 ∨ size < 0 ∨ s.bad now = true)) (hn : ¬ (s.size = 0 ∨ s.count ≠ number)) (h : Blk w b (prow s p) 58) (hp : Probe w b s p) :
    Calls Try.prog 41 #[.pointer (some ⟨b, 0, none⟩), .int .i64 now, .int .i64 number, .int .i64 size, .int .i64 3] w fun e w' => e = .returned (.int .i64 0) ∧ Blk w' b (prow (St.settle (s.ended now)) none) 58 ∧ Mod (· = b) w w' := by
  have hc := hid (ended_ok b s p now number size w hb hn h hp)
  have Hlo := hid (size_bd s now number hk hn)
  have hlt := h.lt
  clear hb hn hk h hp
  go_enter Try.func41, Try.ntmps41
  go_wp2_with (first | (go_at_call 45; refine hc.out.mono ?_; rintro e w1 ⟨rfl, hB1, hM1⟩; have HB1 := hid hB1; clear hB1; have HM1 := hid hM1; clear hM1) | (go_at_call 49; refine (none_any _ _ _).mono ?_; rintro e w2 ⟨rfl, rfl⟩) | (go_at_call 37; refine (settle_any b (s.ended now) none _ (by have := Hlo.out; simp only [St.ended]; omega) (HB1.out.alloc _)).mono ?_; rintro e w3 ⟨rfl, hB3, hM3⟩; have HB3 := hid hB3; clear hB3; have HM3 := hid hM3; clear hM3))
  go_ret
  exact ⟨rfl, HB3.out, (HM1.out.alloc _).trans HM3.out⟩

/-- What is told, in one word. -/
def Told (b : Nat) (s : St) (p : Option Addr) (w : World) (er : Int) (t : St) (e : Ending) (w' : World) : Prop :=
  e = .returned (.int .i64 er) ∧ ∃ p', Blk w' b (prow t p') 58 ∧ Probe w' b t p' ∧ (∀ a, p' = some a → p = some a) ∧ Mod (· = b) w w'

theorem told_any (b : Nat) (s : St) (p : Option Addr) (now number size what : Int) (w : World) (hw : what = 0 ∨ what = 1 ∨ what = 2 ∨ what = 3) (hk : s.Ok) (h : Blk w b (prow s p) 58) (hp : Probe w b s p) :
    Calls Try.prog 41 #[.pointer (some ⟨b, 0, none⟩), .int .i64 now, .int .i64 number, .int .i64 size, .int .i64 what] w (Told b s p w (s.endErr now number size) (s.told now number size what)) := by
  by_cases hb : number < 1 ∨ size < 0 ∨ s.bad now = true
  · have he : s.endErr now number size = 7 := by simp [St.endErr, hb]
    have ht : s.told now number size what = s := by simp [St.told, he]
    rw [he, ht]
    refine (told_err b now number size what 7 w (by decide) (ended_range b s p now number size w hb h)).mono ?_
    rintro e w' ⟨rfl, rfl⟩
    exact ⟨rfl, p, h, hp, fun _ x => x, Mod.refl _ _⟩
  by_cases hn : s.size = 0 ∨ s.count ≠ number
  · have he : s.endErr now number size = 8 := by simp [St.endErr, hb, hn]
    have ht : s.told now number size what = s := by simp [St.told, he]
    rw [he, ht]
    refine (told_err b now number size what 8 w (by decide) (ended_none b s p now number size w hb hn h hp)).mono ?_
    rintro e w' ⟨rfl, rfl⟩
    exact ⟨rfl, p, h, hp, fun _ x => x, Mod.refl _ _⟩
  · have he : s.endErr now number size = 0 := by simp [St.endErr, hb, hn]
    have ht : s.told now number size what = ((s.ended now).fate what s.size size).settle := by simp [St.told, he]
    have hz : ∀ t : St, t.size = 0 → t.settle.size = 0 := by intro t h; unfold St.settle; split <;> exact h
    rw [he, ht]
    rcases hw with rfl | rfl | rfl | rfl
    · refine (told_acked b s p now number size w hk hb hn h hp).mono ?_
      rintro e w' ⟨rfl, h1, h2⟩
      exact ⟨rfl, none, h1, .inl ⟨hz _ rfl, rfl⟩, fun _ x => by simp at x, h2⟩
    · refine (told_missed b s p now number size w hk hb hn h hp).mono ?_
      rintro e w' ⟨rfl, h1, h2⟩
      exact ⟨rfl, none, h1, .inl ⟨hz _ (by simp [St.fate, St.missed]; split <;> rfl), rfl⟩, fun _ x => by simp at x, h2⟩
    · refine (told_big b s p now number size w hk hb hn h hp).mono ?_
      rintro e w' ⟨rfl, h1, h2⟩
      exact ⟨rfl, none, h1, .inl ⟨hz _ rfl, rfl⟩, fun _ x => by simp at x, h2⟩
    · refine (told_none b s p now number size w hk hb hn h hp).mono ?_
      rintro e w' ⟨rfl, h1, h2⟩
      exact ⟨rfl, none, h1, .inl ⟨hz _ rfl, rfl⟩, fun _ x => by simp at x, h2⟩

set_option maxHeartbeats 400000 in
theorem Acked_any (b : Nat) (s : St) (p : Option Addr) (now number : Int) (w : World) (hk : s.Ok) (h : Blk w b (prow s p) 58) (hp : Probe w b s p) :
    Calls Try.prog 21 #[.pointer (some ⟨b, 0, none⟩), .int .i64 now, .int .i64 number] w (Told b s p w (s.endErr now number 0) (s.told now number 0 0)) := by
  have hc := hid (told_any b s p now number 0 0 w (by simp) hk h hp)
  clear hk h hp
  go_enter Try.func21, Try.ntmps21
  go_wp2_with (go_at_call 41; refine hc.out.mono ?_; rintro e w' ⟨rfl, hT⟩; have HT := hid hT; clear hT)
  go_ret
  exact ⟨rfl, HT.out⟩
set_option maxHeartbeats 400000 in
theorem Lost_yes (b : Nat) (s : St) (p : Option Addr) (now number : Int) (w : World) (hk : s.Ok) (h : Blk w b (prow s p) 58) (hp : Probe w b s p) :
    Calls Try.prog 23 #[.pointer (some ⟨b, 0, none⟩), .int .i64 now, .int .i64 number, .bool true] w (Told b s p w (s.endErr now number 0) (s.told now number 0 3)) := by
  have hc := hid (told_any b s p now number 0 3 w (by simp) hk h hp)
  clear hk h hp
  go_enter Try.func23, Try.ntmps23
  go_wp2_with (go_at_call 41; refine hc.out.mono ?_; rintro e w' ⟨rfl, hT⟩; have HT := hid hT; clear hT)
  go_ret
  exact ⟨rfl, HT.out⟩
set_option maxHeartbeats 400000 in
theorem Lost_no (b : Nat) (s : St) (p : Option Addr) (now number : Int) (w : World) (hk : s.Ok) (h : Blk w b (prow s p) 58) (hp : Probe w b s p) :
    Calls Try.prog 23 #[.pointer (some ⟨b, 0, none⟩), .int .i64 now, .int .i64 number, .bool false] w (Told b s p w (s.endErr now number 0) (s.told now number 0 1)) := by
  have hc := hid (told_any b s p now number 0 1 w (by simp) hk h hp)
  clear hk h hp
  go_enter Try.func23, Try.ntmps23
  go_wp2_with (go_at_call 41; refine hc.out.mono ?_; rintro e w' ⟨rfl, hT⟩; have HT := hid hT; clear hT)
  go_ret
  exact ⟨rfl, HT.out⟩
set_option maxHeartbeats 400000 in
theorem Big_any (b : Nat) (s : St) (p : Option Addr) (now number size : Int) (w : World) (hk : s.Ok) (h : Blk w b (prow s p) 58) (hp : Probe w b s p) :
    Calls Try.prog 25 #[.pointer (some ⟨b, 0, none⟩), .int .i64 now, .int .i64 number, .int .i64 size] w (Told b s p w (s.endErr now number size) (s.told now number size 2)) := by
  have hc := hid (told_any b s p now number size 2 w (by simp) hk h hp)
  clear hk h hp
  go_enter Try.func25, Try.ntmps25
  go_wp2_with (go_at_call 41; refine hc.out.mono ?_; rintro e w' ⟨rfl, hT⟩; have HT := hid hT; clear hT)
  go_ret
  exact ⟨rfl, HT.out⟩
end Go.Proofs.Ytakglmdpaaiclaa
