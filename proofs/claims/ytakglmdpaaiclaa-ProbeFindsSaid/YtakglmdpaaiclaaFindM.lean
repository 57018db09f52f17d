/-
  The search on a path, as a plain function: no Go in sight. No condition.
-/
import Derived.Test.YtakglmdpaaiclaaModel
namespace Go.Proofs.Ytakglmdpaaiclaa

def lossAt (bound : Int) (ch : List Bool) (size number : Int) : Bool := decide (bound < size) || (decide (number ≤ ch.length) && ch.getD (number - 1).toNat false)
def St.step (bound : Int) (ch : List Bool) (s : St) : St :=
  (s.asks 0).told 0 (s.asks 0).count 0 (if lossAt bound ch (s.asks 0).size (s.asks 0).count then 1 else 0)
/-- What is found, with at most k probes more: the size, the number of probes, the error. -/
def findRun (bound : Int) (ch : List Bool) : Nat → St → Int × Int × Int
  | 0, s => if s.over then (s.low, s.count, 0) else (0, 0, 4)
  | k + 1, s => if s.over then (s.low, s.count, 0) else findRun bound ch k (s.step bound ch)

/-- What holds between two probes of Find. -/
structure St.At (s : St) : Prop where
  ok : s.Ok
  size : s.size = 0
  now : s.now = 0

theorem at_new (low high : Int) (h : right low high = true) : (newSt low high).At := by
  refine ⟨ok_new low high h, ?_, ?_⟩ <;> (unfold newSt St.settle; split <;> rfl)

theorem asks_ok (s : St) (h : s.At) (ho : s.over = false) (hc : s.count < 1000000000) : (s.asks 0).Ok := by
  have h1 := ok_next s 0 h.ok hc
  have h2 : s.nextErr 0 = 0 := by
    have : s.bad 0 = false := by simp [St.bad, h.now]
    simp [St.nextErr, this, h.size, ho]
  rw [St.next, if_pos h2] at h1
  simpa [St.anew, ho] using h1

theorem asks_end (s : St) (h : s.At) (ho : s.over = false) (hc : 0 ≤ s.count) : (s.asks 0).endErr 0 (s.asks 0).count 0 = 0 := by
  have hz : (s.asks 0).size ≠ 0 := by
    have := h.ok.l1; have := h.ok.l2
    simp [St.asks]; omega
  have hb : (s.asks 0).bad 0 = false := by simp [St.bad, St.asks]
  have hn : ¬ ((s.asks 0).count < 1) := by simp [St.asks]; omega
  simp [St.endErr, hb, hz, hn]

theorem told_zero (s : St) (now number size what : Int) (h : s.endErr now number size = 0) : (s.told now number size what).size = 0 ∧ (s.told now number size what).now = now ∧ (s.told now number size what).count = s.count := by
  unfold St.told
  rw [if_pos h]
  have hs : ∀ t : St, t.settle.size = t.size ∧ t.settle.now = t.now ∧ t.settle.count = t.count := by intro t; unfold St.settle; split <;> exact ⟨rfl, rfl, rfl⟩
  obtain ⟨h1, h2, h3⟩ := hs ((s.ended now).fate what s.size size)
  rw [h1, h2, h3]
  unfold St.fate
  split
  · exact ⟨rfl, rfl, rfl⟩
  split
  · unfold St.missed; split <;> exact ⟨rfl, rfl, rfl⟩
  split <;> exact ⟨rfl, rfl, rfl⟩

theorem step_at (bound : Int) (ch : List Bool) (s : St) (h : s.At) (ho : s.over = false) (hc : s.count < 1000000000) : (s.step bound ch).At ∧ (s.step bound ch).count = s.count + 1 := by
  have h1 := asks_ok s h ho hc
  have h2 := asks_end s h ho h.ok.c1
  obtain ⟨e1, e2, e3⟩ := told_zero (s.asks 0) 0 (s.asks 0).count 0 (if lossAt bound ch (s.asks 0).size (s.asks 0).count then 1 else 0) h2
  exact ⟨⟨ok_told _ _ _ _ _ h1, e1, e2⟩, by rw [show (s.step bound ch).count = _ from e3]; rfl⟩
end Go.Proofs.Ytakglmdpaaiclaa
