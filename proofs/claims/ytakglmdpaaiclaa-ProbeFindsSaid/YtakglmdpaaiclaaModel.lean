/-
  The search of chapter 27 as a plain function on numbers: no Go in sight. No condition.
-/
namespace Go.Proofs.Ytakglmdpaaiclaa

/-- What a search is: 'size' is that of the probe under way (0: none), 'count' how many were sent. -/
structure St where
  low : Int
  high : Int
  top : Int
  now : Int
  over : Bool
  since : Int
  size : Int
  count : Int
  asked : Int
  lost : Int

/-- What always holds of a search. -/
structure St.Ok (s : St) : Prop where
  l1 : 576 ≤ s.low
  l2 : s.low ≤ s.high
  l3 : s.high ≤ s.top
  l4 : s.top ≤ 9000
  n1 : 0 ≤ s.now
  n2 : s.now ≤ 1000000000
  s1 : 0 ≤ s.since
  s2 : s.since ≤ s.now
  c1 : 0 ≤ s.count
  c2 : s.count ≤ 1000000000
  a1 : 0 ≤ s.asked
  a2 : s.asked ≤ 9000
  t1 : 0 ≤ s.lost
  t2 : s.lost ≤ 2
  ov : s.over = decide (s.high - s.low < 16)
  z0 : 0 ≤ s.size
  z1 : s.size ≠ 0 → s.size = (s.low + s.high + 1) / 2 ∧ 16 ≤ s.high - s.low ∧ s.asked = s.size

def St.settle (s : St) : St := if s.high - s.low < 16 then { s with over := true, since := s.now } else { s with over := false }

def St.bad (s : St) (now : Int) : Bool := decide (now < s.now ∨ 1000000000 < now)

def newSt (low high : Int) : St := St.settle { low := low, high := high, top := high, now := 0, over := false, since := 0, size := 0, count := 0, asked := 0, lost := 0 }
def right (low high : Int) : Bool := decide (576 ≤ low ∧ low ≤ high ∧ high ≤ 9000)

/-- Next asks. -/
def St.anew (s : St) : St := if s.over then { s with high := s.top, over := false } else s
def St.asks (s : St) (now : Int) : St :=
  { s with now := now, asked := (s.low + s.high + 1) / 2, lost := if (s.low + s.high + 1) / 2 = s.asked then s.lost else 0, count := s.count + 1, size := (s.low + s.high + 1) / 2 }
def St.nextErr (s : St) (now : Int) : Int :=
  if s.bad now then 7 else if s.size ≠ 0 then 9 else if s.over = true ∧ (now < s.since + 600000 ∨ s.top - s.low < 16) then 8 else 0
def St.next (s : St) (now : Int) : St := if s.nextErr now = 0 then s.anew.asks now else s
def St.nextSize (s : St) (now : Int) : Int := if s.nextErr now = 0 then (s.next now).size else 0
def St.nextNumber (s : St) (now : Int) : Int := if s.nextErr now = 0 then (s.next now).count else 0

/-- What becomes of a probe. -/
def St.endErr (s : St) (now number size : Int) : Int :=
  if number < 1 ∨ size < 0 ∨ s.bad now = true then 7 else if s.size = 0 ∨ s.count ≠ number then 8 else 0
def St.ended (s : St) (now : Int) : St := { s with now := now, size := 0 }
def St.acked (s : St) (n : Int) : St := { s with low := n, lost := 0 }
def St.missed (s : St) (n : Int) : St := if s.lost + 1 = 3 then { s with high := n - 1, lost := 0 } else { s with lost := s.lost + 1 }
def St.big (s : St) (n told : Int) : St := { s with high := if told < s.low ∨ n ≤ told then n - 1 else told, lost := 0 }
def St.fate (s : St) (what n told : Int) : St := if what = 0 then s.acked n else if what = 1 then s.missed n else if what = 2 then s.big n told else s
def St.told (s : St) (now number size what : Int) : St :=
  if s.endErr now number size = 0 then ((s.ended now).fate what s.size size).settle else s

def St.stuck (s : St) (now : Int) : St :=
  if s.bad now then s else St.settle { s with now := now, low := 576, high := s.top, size := 0 }
def St.stuckErr (s : St) (now : Int) : Int := if s.bad now then 7 else 0

def St.state (s : St) : Int := if s.over then (if s.since + 600000 ≤ s.now then 1 else 2) else 0

/-! ### What holds is kept -/
theorem ok_settle (s : St) (h1 : 576 ≤ s.low) (h2 : s.low ≤ s.high) (h3 : s.high ≤ s.top) (h4 : s.top ≤ 9000) (h5 : 0 ≤ s.now) (h6 : s.now ≤ 1000000000) (h7 : 0 ≤ s.since) (h8 : s.since ≤ s.now)
    (h9 : 0 ≤ s.count) (h10 : s.count ≤ 1000000000) (h11 : 0 ≤ s.asked) (h12 : s.asked ≤ 9000) (h13 : 0 ≤ s.lost) (h14 : s.lost ≤ 2) (h15 : s.size = 0) : s.settle.Ok := by
  unfold St.settle
  split <;> exact ⟨by simp <;> omega, by simp <;> omega, by simp <;> omega, by simp <;> omega, by simp <;> omega, by simp <;> omega, by simp <;> omega, by simp <;> omega, by simp <;> omega, by simp <;> omega, by simp <;> omega, by simp <;> omega, by simp <;> omega, by simp <;> omega, by simp; omega, by simp [h15], by simp [h15]⟩

theorem ok_new (low high : Int) (h : right low high = true) : (newSt low high).Ok := by
  simp [right] at h
  exact ok_settle _ (by simp; omega) (by simp; omega) (by simp) (by simp; omega) (by simp) (by simp) (by simp) (by simp) (by simp) (by simp) (by simp) (by simp) (by simp) (by simp) rfl

theorem ok_next (s : St) (now : Int) (h : s.Ok) (hc : s.count < 1000000000) : (s.next now).Ok := by
  obtain ⟨l1, l2, l3, l4, n1, n2, s1, s2, c1, c2, a1, a2, t1, t2, ov, z0, z1⟩ := h
  unfold St.next
  by_cases e : s.nextErr now = 0
  · rw [if_pos e]
    unfold St.nextErr at e
    by_cases hb : s.bad now = true
    · simp [hb] at e
    by_cases hz : s.size = 0
    · by_cases ho : s.over = true
      · simp [hb, hz, ho] at e
        simp [St.bad] at hb
        refine ⟨?_, ?_, ?_, ?_, ?_, ?_, ?_, ?_, ?_, ?_, ?_, ?_, ?_, ?_, ?_, ?_, ?_⟩ <;> simp [St.anew, St.asks, ho] <;> (try split) <;> omega
      · have ho' : s.over = false := by simpa using ho
        rw [ho'] at ov
        simp at ov
        simp [St.bad] at hb
        refine ⟨?_, ?_, ?_, ?_, ?_, ?_, ?_, ?_, ?_, ?_, ?_, ?_, ?_, ?_, ?_, ?_, ?_⟩ <;> simp [St.anew, St.asks, ho'] <;> (try split) <;> omega
    · simp [hb, hz] at e
  · rw [if_neg e]
    exact ⟨l1, l2, l3, l4, n1, n2, s1, s2, c1, c2, a1, a2, t1, t2, ov, z0, z1⟩

theorem ok_told (s : St) (now number size what : Int) (h : s.Ok) : (s.told now number size what).Ok := by
  have hk := h
  obtain ⟨l1, l2, l3, l4, n1, n2, s1, s2, c1, c2, a1, a2, t1, t2, ov, z0, z1⟩ := h
  unfold St.told
  by_cases e : s.endErr now number size = 0
  · rw [if_pos e]
    unfold St.endErr at e
    by_cases hb : number < 1 ∨ size < 0 ∨ s.bad now = true
    · simp [hb] at e
    by_cases hz : s.size = 0 ∨ s.count ≠ number
    · simp [hb, hz] at e
    · simp only [not_or] at hb hz
      have z2 := z1 hz.1
      obtain ⟨hb1, hb2, hb3⟩ := hb
      simp [St.bad] at hb3
      unfold St.fate
      split
      · exact ok_settle _ (by simp [St.ended, St.acked]; omega) (by simp [St.ended, St.acked]; omega) (by simp [St.ended, St.acked]; omega) (by simp [St.ended, St.acked]; omega) (by simp [St.ended, St.acked]; omega) (by simp [St.ended, St.acked]; omega) (by simp [St.ended, St.acked]; omega) (by simp [St.ended, St.acked]; omega) (by simp [St.ended, St.acked]; omega) (by simp [St.ended, St.acked]; omega) (by simp [St.ended, St.acked]; omega) (by simp [St.ended, St.acked]; omega) (by simp [St.ended, St.acked]) (by simp [St.ended, St.acked]) rfl
      split
      · unfold St.missed
        split <;> exact ok_settle _ (by simp [St.ended]; omega) (by simp [St.ended]; omega) (by simp [St.ended]; omega) (by simp [St.ended]; omega) (by simp [St.ended]; omega) (by simp [St.ended]; omega) (by simp [St.ended]; omega) (by simp [St.ended]; omega) (by simp [St.ended]; omega) (by simp [St.ended]; omega) (by simp [St.ended]; omega) (by simp [St.ended]; omega) (by simp_all [St.ended] <;> omega) (by simp_all [St.ended] <;> omega) rfl
      split
      · unfold St.big
        refine ok_settle _ ?_ ?_ ?_ ?_ ?_ ?_ ?_ ?_ ?_ ?_ ?_ ?_ ?_ ?_ rfl <;> simp [St.ended] <;> (try split) <;> omega
      · exact ok_settle _ (by simp [St.ended]; omega) (by simp [St.ended]; omega) (by simp [St.ended]; omega) (by simp [St.ended]; omega) (by simp [St.ended]; omega) (by simp [St.ended]; omega) (by simp [St.ended]; omega) (by simp [St.ended]; omega) (by simp [St.ended]; omega) (by simp [St.ended]; omega) (by simp [St.ended]; omega) (by simp [St.ended]; omega) (by simp [St.ended]; omega) (by simp [St.ended]; omega) rfl
  · rw [if_neg e]; exact hk

theorem ok_stuck (s : St) (now : Int) (h : s.Ok) : (s.stuck now).Ok := by
  have hk := h
  obtain ⟨l1, l2, l3, l4, n1, n2, s1, s2, c1, c2, a1, a2, t1, t2, ov, z0, z1⟩ := h
  unfold St.stuck
  split
  · exact hk
  · next hb =>
    simp [St.bad] at hb
    exact ok_settle _ (by simp) (by simp; omega) (by simp) (by simp; omega) (by simp; omega) (by simp; omega) (by simp; omega) (by simp; omega) (by simp; omega) (by simp; omega) (by simp; omega) (by simp; omega) (by simp; omega) (by simp; omega) rfl
end Go.Proofs.Ytakglmdpaaiclaa
