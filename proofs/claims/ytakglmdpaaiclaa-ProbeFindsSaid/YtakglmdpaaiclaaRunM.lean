/-
  What a search comes to on a path that lets sizes up to a bound through: no Go in sight. No condition.
-/
import Derived.Test.YtakglmdpaaiclaaFindM
namespace Go.Proofs.Ytakglmdpaaiclaa
set_option linter.unusedSimpArgs false
set_option linter.unusedVariables false

/-- One probe, asked at the time now. -/
def St.stepR (bound now : Int) (s : St) : St :=
  (s.next now).told now (s.next now).count 0 (if bound < (s.next now).size then 1 else 0)
def runM (bound now : Int) : Nat → St → St
  | 0, s => s
  | k + 1, s => if s.nextErr now = 0 then runM bound now k (s.stepR bound now) else s

/-- A search that has not found, and has no probe under way, at a time that is right. -/
structure St.Open (s : St) (bound now m : Int) : Prop where
  ok : s.Ok
  size : s.size = 0
  over : s.over = false
  t1 : s.now ≤ now
  t2 : now ≤ 1000000000
  lo : s.low ≤ m
  bm : bound ≤ m
  hi : bound ≤ s.high ∨ s.top ≤ s.high
  ls : s.lost ≠ 0 → s.asked = (s.low + s.high + 1) / 2 ∧ bound < (s.low + s.high + 1) / 2

theorem open_err (s : St) (bound now m : Int) (h : s.Open bound now m) : s.nextErr now = 0 ∧ s.next now = s.asks now := by
  have hb : s.bad now = false := by have := h.t1; have := h.t2; simp [St.bad]; omega
  have he : s.nextErr now = 0 := by simp [St.nextErr, hb, h.size, h.over]
  refine ⟨he, ?_⟩
  unfold St.next
  rw [if_pos he]
  simp [St.anew, h.over]

/-- What holds of a search that has found, at the time now. -/
structure St.Found (s r : St) (bound now m : Int) : Prop where
  ok : r.Ok
  size : r.size = 0
  over : r.over = true
  lo1 : s.low ≤ r.low
  lo2 : r.low ≤ m
  hi : bound ≤ r.high ∨ r.top ≤ r.high
  top : r.top = s.top
  since : r.since = now
  now : r.now = now
  lost : r.lost = 0

theorem settle_cases (t : St) : (t.high - t.low < 16 ∧ t.settle = { t with over := true, since := t.now }) ∨ (16 ≤ t.high - t.low ∧ t.settle = { t with over := false }) := by
  unfold St.settle
  by_cases h : t.high - t.low < 16
  · exact .inl ⟨h, if_pos h⟩
  · exact .inr ⟨by omega, if_neg h⟩

/-- One probe: the search has found, or is open with half the width at most, or the same width and one loss more. -/
theorem stepR_open (s : St) (bound now m : Int) (h : s.Open bound now m) (hc : s.count < 1000000000) :
    (s.stepR bound now).count = s.count + 1 ∧
    (s.Found (s.stepR bound now) bound now m ∨
     ((s.stepR bound now).Open bound now m ∧ (s.stepR bound now).now = now ∧ s.low ≤ (s.stepR bound now).low ∧ (s.stepR bound now).top = s.top ∧
       (((s.stepR bound now).high - (s.stepR bound now).low = (s.high - s.low) - (s.high - s.low + 1) / 2 ∧ (s.stepR bound now).lost = 0 ∧ s.lost = 0) ∨
        ((s.stepR bound now).high - (s.stepR bound now).low = (s.high - s.low + 1) / 2 - 1 ∧ (s.stepR bound now).lost = 0 ∧ s.lost = 2) ∨
        ((s.stepR bound now).high = s.high ∧ (s.stepR bound now).low = s.low ∧ (s.stepR bound now).lost = s.lost + 1 ∧ s.lost ≤ 1)))) := by
  obtain ⟨he, hn⟩ := open_err s bound now m h
  have hok := ok_next s now h.ok hc
  rw [hn] at hok
  have hkk := ok_told (s.asks now) now (s.asks now).count 0 (if bound < (s.asks now).size then 1 else 0) hok
  obtain ⟨ok, size, over, t1, t2, lo, bm, hi, ls⟩ := h
  have o := ok
  obtain ⟨l1, l2, l3, l4, n1, n2, s1, s2, c1, c2, a1, a2, q1, q2, ov, z0, z1⟩ := ok
  rw [over] at ov
  simp at ov
  have hend : (s.asks now).endErr now (s.asks now).count 0 = 0 := by
    have hb : (s.asks now).bad now = false := by simp [St.bad, St.asks]; omega
    have hz : (s.asks now).size ≠ 0 := by simp [St.asks]; omega
    have hn : ¬ ((s.asks now).count < 1) := by simp [St.asks]; omega
    simp [St.endErr, hb, hz, hn]
  have hz := told_zero (s.asks now) now (s.asks now).count 0 (if bound < (s.asks now).size then 1 else 0) hend
  have hstep : s.stepR bound now = (((s.asks now).ended now).fate (if bound < (s.asks now).size then 1 else 0) (s.asks now).size 0).settle := by
    unfold St.stepR
    rw [hn]
    unfold St.told
    rw [if_pos hend]
  unfold St.stepR at *
  rw [hn] at *
  obtain ⟨hz1, hz2, hz3⟩ := hz
  refine ⟨hz3, ?_⟩
  generalize hr : (s.asks now).told now (s.asks now).count 0 (if bound < (s.asks now).size then 1 else 0) = r at *
  have hq : (s.asks now).size = (s.low + s.high + 1) / 2 := rfl
  by_cases hb : bound < (s.asks now).size
  · rw [if_pos hb] at hstep
    have hf : ((s.asks now).ended now).fate 1 (s.asks now).size 0 = ((s.asks now).ended now).missed (s.asks now).size := rfl
    rw [hf] at hstep
    by_cases h3 : ((s.asks now).ended now).lost + 1 = 3
    · have hm : ((s.asks now).ended now).missed (s.asks now).size = { (s.asks now).ended now with high := (s.asks now).size - 1, lost := 0 } := by unfold St.missed; rw [if_pos h3]
      rw [hm] at hstep
      rcases settle_cases { (s.asks now).ended now with high := (s.asks now).size - 1, lost := 0 } with ⟨g, e⟩ | ⟨g, e⟩
      · rw [e] at hstep
        simp only [St.asks, St.ended] at hstep g hb
        subst hstep
        exact .inl ⟨hkk, rfl, rfl, by simp, by simp; omega, by simp; omega, rfl, rfl, rfl, rfl⟩
      · rw [e] at hstep
        simp only [St.asks, St.ended] at hstep g hb
        subst hstep
        have hl2 : s.lost = 2 := by
          by_cases ha : (s.low + s.high + 1) / 2 = s.asked
          · simp only [St.asks, St.ended] at h3; rw [if_pos ha] at h3; omega
          · simp only [St.asks, St.ended] at h3; rw [if_neg ha] at h3; omega
        exact .inr ⟨⟨hkk, rfl, rfl, by simp, t2, by simp; omega, bm, by simp; omega, by simp⟩, rfl, by simp, rfl, .inr (.inl ⟨by simp; omega, rfl, hl2⟩)⟩
    · have hm : ((s.asks now).ended now).missed (s.asks now).size = { (s.asks now).ended now with lost := ((s.asks now).ended now).lost + 1 } := by unfold St.missed; rw [if_neg h3]
      rw [hm] at hstep
      rcases settle_cases { (s.asks now).ended now with lost := ((s.asks now).ended now).lost + 1 } with ⟨g, e⟩ | ⟨g, e⟩
      · simp only [St.asks, St.ended] at g; omega
      · rw [e] at hstep
        simp only [St.asks, St.ended] at hstep g hb h3
        subst hstep
        have hl2 : (if (s.low + s.high + 1) / 2 = s.asked then s.lost else 0) = s.lost := by
          by_cases ha : (s.low + s.high + 1) / 2 = s.asked
          · rw [if_pos ha]
          · rw [if_neg ha]
            by_cases hl : s.lost = 0
            · omega
            · exact absurd (ls hl).1.symm ha
        rw [hl2] at h3
        refine .inr ⟨⟨hkk, rfl, rfl, by simp, t2, by simp; omega, bm, by simpa using hi, fun _ => ⟨by simp, by simpa using hb⟩⟩, rfl, by simp, rfl, .inr (.inr ⟨rfl, rfl, ?_, by omega⟩)⟩
        simp only
        rw [hl2]
  · rw [if_neg hb] at hstep
    have hf : ((s.asks now).ended now).fate 0 (s.asks now).size 0 = ((s.asks now).ended now).acked (s.asks now).size := rfl
    rw [hf] at hstep
    rcases settle_cases (((s.asks now).ended now).acked (s.asks now).size) with ⟨g, e⟩ | ⟨g, e⟩
    · rw [e] at hstep
      simp only [St.asks, St.ended, St.acked] at hstep g hb
      subst hstep
      exact .inl ⟨hkk, rfl, rfl, by simp; omega, by simp; omega, by simpa using hi, rfl, rfl, rfl, rfl⟩
    · rw [e] at hstep
      simp only [St.asks, St.ended, St.acked] at hstep g hb
      subst hstep
      have hl0 : s.lost = 0 := by
        by_cases hl : s.lost = 0
        · exact hl
        · have := (ls hl).2; omega
      exact .inr ⟨⟨hkk, rfl, rfl, by simp, t2, by simp; omega, bm, by simpa using hi, by simp⟩, rfl, by simp; omega, rfl, .inl ⟨by simp; omega, rfl, hl0⟩⟩

theorem runM_idle (bound now : Int) (k : Nat) (s : St) (h : s.nextErr now ≠ 0) : runM bound now k s = s := by
  cases k with
  | zero => rfl
  | succ k => rw [runM, if_neg h]

theorem runM_succ (bound now : Int) (k : Nat) (s : St) (h : s.nextErr now = 0) : runM bound now (k + 1) s = runM bound now k (s.stepR bound now) := by rw [runM, if_pos h]

theorem found_idle (s r : St) (bound now m : Int) (h : s.Found r bound now m) (hn : now ≤ 1000000000) (k : Nat) : runM bound now k r = r := by
  refine runM_idle bound now k r ?_
  have hb : r.bad now = false := by have := h.now; simp [St.bad]; omega
  have := h.since
  simp [St.nextErr, hb, h.size, h.over]
  omega

theorem runM_found (bound now m : Int) : ∀ (k d : Nat) (s : St), s.Open bound now m → s.count + k < 1000000000 → s.high - s.low < 16 * 2 ^ d → 3 * (d : Int) ≤ k + s.lost → s.Found (runM bound now k s) bound now m := by
  intro k
  induction k with
  | zero =>
    intro d s h hc hw hd
    have ho := h.ok.ov
    have ht := h.ok.t2
    rw [h.over] at ho
    simp at ho
    have : d = 0 := by omega
    subst this
    simp at hw
    omega
  | succ k ih =>
    intro d s h hc hw hd
    obtain ⟨he, hn⟩ := open_err s bound now m h
    have ho := h.ok.ov
    have ht2 := h.ok.t2
    have ht1 := h.ok.t1
    rw [h.over] at ho
    simp at ho
    rw [runM, if_pos he]
    obtain ⟨hcnt, hf | ⟨hopen, hnow, hlow, htop, hcase⟩⟩ := stepR_open s bound now m h (by omega)
    · rw [found_idle s _ bound now m hf h.t2]
      exact hf
    · obtain ⟨d, rfl⟩ : ∃ e, d = e + 1 := by
        refine ⟨d - 1, ?_⟩
        rcases Nat.eq_zero_or_pos d with h0 | h0
        · subst h0; simp at hw; omega
        · omega
      have hp : (2 : Int) ^ (d + 1) = 2 * 2 ^ d := by rw [Int.pow_succ]; omega
      rw [hp] at hw
      obtain ⟨P, hP⟩ : ∃ P, P = (2 : Int) ^ d := ⟨_, rfl⟩
      rw [← hP] at hw hp
      have key : (s.stepR bound now).Found (runM bound now k (s.stepR bound now)) bound now m := by
        rcases hcase with ⟨hw', hl', hl0⟩ | ⟨hw', hl', hl0⟩ | ⟨hh, hl2, hl', hl0⟩
        · exact ih d _ hopen (by omega) (by rw [← hP]; omega) (by omega)
        · exact ih d _ hopen (by omega) (by rw [← hP]; omega) (by omega)
        · exact ih (d + 1) _ hopen (by omega) (by rw [hp]; omega) (by omega)
      exact ⟨key.ok, key.size, key.over, by have := key.lo1; omega, key.lo2, key.hi, key.top.trans htop, key.since, key.now, key.lost⟩

/-- The first run: from a new search, at the time 0. -/
theorem run_first (low high bound : Int) (hr : right low high = true) (hb : low ≤ bound) :
    (newSt low high).Found (runM bound 0 200 (newSt low high)) bound 0 bound := by
  have hat := at_new low high hr
  have hok := hat.ok
  have hr' := hr
  simp [right] at hr'
  have hlow : (newSt low high).low = low := by unfold newSt St.settle; split <;> rfl
  have hhigh : (newSt low high).high = high := by unfold newSt St.settle; split <;> rfl
  have htop : (newSt low high).top = high := by unfold newSt St.settle; split <;> rfl
  have hlost : (newSt low high).lost = 0 := by unfold newSt St.settle; split <;> rfl
  have hsince : (newSt low high).since = 0 := by unfold newSt St.settle; split <;> rfl
  have hcount : (newSt low high).count = 0 := by unfold newSt St.settle; split <;> rfl
  cases ho : (newSt low high).over with
  | true =>
    have hf : (newSt low high).Found (newSt low high) bound 0 bound := ⟨hok, hat.size, ho, by omega, by omega, .inr (by omega), rfl, hsince, hat.now, hlost⟩
    rw [found_idle _ _ bound 0 bound hf (by omega)]
    exact hf
  | false =>
    refine runM_found bound 0 bound 200 10 _ ⟨hok, hat.size, ho, by rw [hat.now]; omega, by omega, by omega, by omega, .inr (by omega), fun h => absurd hlost h⟩ (by omega) ?_ (by omega)
    rw [hhigh, hlow]
    have : (16 : Int) * 2 ^ 10 = 16384 := by decide
    omega

/-- The second run, behind the time of rest: nothing is asked, or it is asked anew and found. -/
theorem run_second (r : St) (bound later : Int) (s : St) (h : s.Found r bound 0 bound) (hc : r.count < 900000000) (h1 : 600000 ≤ later) (h2 : later ≤ 1000000) :
    runM bound later 200 r = r ∨ ∃ t : St, t.top = r.top ∧ r.low ≤ t.low ∧ t.Found (runM bound later 200 r) bound later bound := by
  have hb : r.bad later = false := by have := h.now; simp [St.bad]; omega
  by_cases hn : r.top - r.low < 16
  · refine .inl (runM_idle _ _ _ _ ?_)
    simp [St.nextErr, hb, h.size, h.over, hn]
  · right
    have he : r.nextErr later = 0 := by
      have := h.since
      simp [St.nextErr, hb, h.size, h.over]
      omega
    have hov : r.anew = { r with high := r.top, over := false } := by simp [St.anew, h.over]
    obtain ⟨l1, l2, l3, l4, n1, n2, s1, s2, c1, c2, a1, a2, q1, q2, ov, z0, z1⟩ := h.ok
    have hopen : r.anew.Open bound later bound := by
      rw [hov]
      refine ⟨⟨l1, by simp; omega, by simp, l4, n1, n2, s1, s2, c1, c2, a1, a2, q1, q2, by simp; omega, z0, fun hz => absurd h.size hz⟩, h.size, rfl, ?_, by omega, h.lo2, by omega, .inr (by simp), fun hz => absurd h.lost hz⟩
      have := h.now
      simp; omega
    obtain ⟨he', hn'⟩ := open_err _ bound later bound hopen
    have hsame : r.stepR bound later = r.anew.stepR bound later := by
      unfold St.stepR
      rw [hn']
      have : r.next later = r.anew.asks later := by unfold St.next; rw [if_pos he]
      rw [this]
    refine ⟨r.anew, by rw [hov], by rw [hov]; simp, ?_⟩
    have hrun : runM bound later 200 r = runM bound later 200 r.anew := by
      show runM bound later (199 + 1) r = runM bound later (199 + 1) r.anew
      rw [runM_succ bound later 199 r he, runM_succ bound later 199 r.anew he', hsame]
    rw [hrun]
    refine runM_found bound later bound 200 10 _ hopen (by rw [hov]; simp only; omega) ?_ (by rw [hov]; simp only [h.lost]; omega)
    rw [hov]
    have : (16 : Int) * 2 ^ 10 = 16384 := by decide
    simp only
    omega

theorem count_runM (bound now : Int) : ∀ (k : Nat) (s : St), (runM bound now k s).count ≤ s.count + k := by
  intro k
  induction k with
  | zero => intro s; simp [runM]
  | succ k ih =>
    intro s
    rw [runM]
    split
    · have h1 := ih (s.stepR bound now)
      have h2 : (s.stepR bound now).count ≤ s.count + 1 := by
        unfold St.stepR
        have h3 : ((s.next now).told now (s.next now).count 0 (if bound < (s.next now).size then 1 else 0)).count = (s.next now).count := by
          by_cases h : (s.next now).endErr now (s.next now).count 0 = 0
          · exact (told_zero _ _ _ _ _ h).2.2
          · unfold St.told; rw [if_neg h]
        rw [h3]
        unfold St.next
        split
        · unfold St.anew; split <;> simp [St.asks]
        · omega
      omega
    · omega
end Go.Proofs.Ytakglmdpaaiclaa
