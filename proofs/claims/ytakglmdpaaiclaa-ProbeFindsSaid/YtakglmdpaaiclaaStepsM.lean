/-
  How many probes a search needs at most, and what it finds: no Go in sight. No condition.
-/
import Derived.Test.YtakglmdpaaiclaaRunM
namespace Go.Proofs.Ytakglmdpaaiclaa
set_option linter.unusedSimpArgs false
set_option linter.unusedVariables false

/-- The number of probes that a range of the width w needs at most. -/
def need (w : Nat) : Nat := if w < 16 then 0 else max (1 + need (w - (w + 1) / 2)) (3 + need ((w + 1) / 2 - 1))
termination_by w
decreasing_by all_goals omega

theorem need_small (w : Nat) (h : w < 16) : need w = 0 := by rw [need, if_pos h]
theorem need_great (w : Nat) (h : 16 ≤ w) : need w = max (1 + need (w - (w + 1) / 2)) (3 + need ((w + 1) / 2 - 1)) := by rw [need, if_neg (by omega)]
theorem need_le : ∀ (d w : Nat), w < 16 * 2 ^ d → need w ≤ 3 * d := by
  intro d
  induction d with
  | zero => intro w h; rw [need_small w (by simpa using h)]; omega
  | succ d ih =>
    intro w h
    by_cases hw : w < 16
    · rw [need_small w hw]; omega
    · rw [need_great w (by omega)]
      rw [Nat.pow_succ] at h
      have h1 := ih (w - (w + 1) / 2) (by omega)
      have h2 := ih ((w + 1) / 2 - 1) (by omega)
      omega
theorem need_bd (w : Nat) (h : w ≤ 8424) : need w ≤ 30 := by
  have h0 : (16 : Nat) * 2 ^ 10 = 16384 := by decide
  exact need_le 10 w (by omega)

theorem lossAt_nil (bound size number : Int) : lossAt bound [] size number = decide (bound < size) := by simp [lossAt]
theorem step_nil (s : St) (bound m : Int) (h : s.Open bound 0 m) : s.step bound [] = s.stepR bound 0 := by
  obtain ⟨he, hn⟩ := open_err s bound 0 m h
  unfold St.step St.stepR
  rw [hn, lossAt_nil]
  by_cases hb : bound < (s.asks 0).size
  · rw [if_pos hb, if_pos (by simpa using hb)]
  · rw [if_neg hb, if_neg (by simpa using hb)]

theorem over_all (bound : Int) (ch : List Bool) (s : St) (ho : s.over = true) (k : Nat) : findRun bound ch k s = (s.low, s.count, 0) := by
  cases k <;> simp [findRun, ho]

theorem find_count (bound m : Int) : ∀ (k : Nat) (s : St), s.Open bound 0 m → s.count + k < 1000000000 → (need (s.high - s.low).toNat : Int) ≤ k + s.lost →
    ∃ r : St, findRun bound [] k s = (r.low, r.count, 0) ∧ s.Found r bound 0 m ∧ r.count + s.lost ≤ s.count + need (s.high - s.low).toNat := by
  intro k
  induction k with
  | zero =>
    intro s h hc hd
    have ho := h.ok.ov
    have ht := h.ok.t2
    rw [h.over] at ho
    simp at ho
    rw [need_great _ (by omega)] at hd
    omega
  | succ k ih =>
    intro s h hc hd
    have ho := h.ok.ov
    have ht := h.ok.t2
    have ht1 := h.ok.t1
    rw [h.over] at ho
    simp at ho
    have hg := need_great (s.high - s.low).toNat (by omega)
    have hrun : findRun bound [] (k + 1) s = findRun bound [] k (s.stepR bound 0) := by
      rw [findRun, ← step_nil s bound m h]; simp [h.over]
    rw [hrun]
    obtain ⟨hcnt, hf | ⟨hopen, hnow, hlow, htop, hcase⟩⟩ := stepR_open s bound 0 m h (by omega)
    · exact ⟨s.stepR bound 0, over_all _ _ _ hf.over _, hf, by omega⟩
    · rcases hcase with ⟨hw', hl', hl0⟩ | ⟨hw', hl', hl0⟩ | ⟨hh, hl2, hl', hl0⟩
      · have e : ((s.stepR bound 0).high - (s.stepR bound 0).low).toNat = (s.high - s.low).toNat - ((s.high - s.low).toNat + 1) / 2 := by omega
        obtain ⟨r, g1, g2, g3⟩ := ih _ hopen (by omega) (by rw [e]; omega)
        rw [e] at g3
        exact ⟨r, g1, ⟨g2.ok, g2.size, g2.over, by have := g2.lo1; omega, g2.lo2, g2.hi, g2.top.trans htop, g2.since, g2.now, g2.lost⟩, by omega⟩
      · have e : ((s.stepR bound 0).high - (s.stepR bound 0).low).toNat = ((s.high - s.low).toNat + 1) / 2 - 1 := by omega
        obtain ⟨r, g1, g2, g3⟩ := ih _ hopen (by omega) (by rw [e]; omega)
        rw [e] at g3
        exact ⟨r, g1, ⟨g2.ok, g2.size, g2.over, by have := g2.lo1; omega, g2.lo2, g2.hi, g2.top.trans htop, g2.since, g2.now, g2.lost⟩, by omega⟩
      · have e : ((s.stepR bound 0).high - (s.stepR bound 0).low).toNat = (s.high - s.low).toNat := by omega
        obtain ⟨r, g1, g2, g3⟩ := ih _ hopen (by omega) (by rw [e]; omega)
        rw [e] at g3
        exact ⟨r, g1, ⟨g2.ok, g2.size, g2.over, by have := g2.lo1; omega, g2.lo2, g2.hi, g2.top.trans htop, g2.since, g2.now, g2.lost⟩, by omega⟩

theorem new_fields (low high : Int) : (newSt low high).low = low ∧ (newSt low high).high = high ∧ (newSt low high).top = high ∧ (newSt low high).lost = 0 ∧ (newSt low high).since = 0 ∧ (newSt low high).count = 0 := by
  unfold newSt St.settle; split <;> exact ⟨rfl, rfl, rfl, rfl, rfl, rfl⟩

/-- Without chance: what is found is at most the bound, and close below it, with so many probes at most. -/
theorem find_plain (low high bound : Int) (hr : right low high = true) :
    ∃ a n : Int, findRun bound [] 1000 (newSt low high) = (a, n, 0) ∧ n ≤ need (high - low).toNat ∧ (a ≤ low ∨ a ≤ bound) ∧ (bound - 16 < a ∨ high - 16 < a) := by
  have hat := at_new low high hr
  obtain ⟨e1, e2, e3, e4, e5, e6⟩ := new_fields low high
  have hr' := hr
  simp [right] at hr'
  have hok := hat.ok
  cases ho : (newSt low high).over with
  | true =>
    have hov := hok.ov
    rw [ho, e1, e2] at hov
    simp at hov
    exact ⟨low, 0, by rw [over_all _ _ _ ho, e1, e6], by omega, .inl (by omega), .inr (by omega)⟩
  | false =>
    have hopen : (newSt low high).Open bound 0 (max low bound) := ⟨hok, hat.size, ho, by rw [hat.now]; omega, by omega, by omega, by omega, .inr (by omega), fun h => absurd e4 h⟩
    have hn := need_bd (high - low).toNat (by omega)
    obtain ⟨r, g1, g2, g3⟩ := find_count bound (max low bound) 1000 _ hopen (by omega) (by rw [e1, e2, e4]; omega)
    rw [e1, e2, e4, e6] at g3
    have hov := g2.ok.ov
    rw [g2.over] at hov
    simp at hov
    have := g2.hi; have := g2.lo2; have := g2.top
    exact ⟨r.low, r.count, g1, by omega, by omega, by omega⟩

/-- With losses by chance: never above the bound. -/
theorem step_low (bound m : Int) (ch : List Bool) (s : St) (hb : bound ≤ m) (h : s.low ≤ m) (ha : s.At) (ho : s.over = false) : (s.step bound ch).low ≤ m := by
  have hend := asks_end s ha ho ha.ok.c1
  have hs : ∀ t : St, t.settle.low = t.low := by intro t; unfold St.settle; split <;> rfl
  unfold St.step St.told
  rw [if_pos hend, hs]
  by_cases hl : lossAt bound ch (s.asks 0).size (s.asks 0).count = true
  · rw [if_pos hl]
    show (((s.asks 0).ended 0).missed _).low ≤ m
    unfold St.missed
    split <;> exact h
  · rw [if_neg hl]
    show (s.asks 0).size ≤ m
    simp only [lossAt, Bool.or_eq_true, decide_eq_true_eq, not_or] at hl
    omega
theorem find_low (bound m : Int) (ch : List Bool) (hb : bound ≤ m) (h0 : 0 ≤ m) : ∀ (k : Nat) (s : St), s.At → s.count + k < 1000000000 → s.low ≤ m → (findRun bound ch k s).1 ≤ m := by
  intro k
  induction k with
  | zero => intro s _ _ h; rw [findRun]; split <;> simpa
  | succ k ih =>
    intro s ha hc h
    rw [findRun]
    cases ho : s.over with
    | true => simpa
    | false =>
      obtain ⟨h1, h2⟩ := step_at bound ch s ha ho (by omega)
      simp
      exact ih _ h1 (by omega) (step_low bound m ch s hb h ha ho)
end Go.Proofs.Ytakglmdpaaiclaa
