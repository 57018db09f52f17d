/-
  Several texts in one, in their build order. A client of web seeds told in plain words: its seeds, what is wanted, what is under way, the runs that may be got, and the one that is got next. Plain Lean, no program. No condition.
-/
import Derived.Test.YtnhgichiedninaaGreatDoorM6
namespace Go.Proofs.YtnhgichiedninaaGreatDoor
set_option linter.unusedSimpArgs false
set_option linter.unusedVariables false

structure SeedV where
  frm : Int
  cnt : Int
  under : Bool
  fails : Int
  bad : Int
  after : Int
  out : Bool
deriving DecidableEq, Repr
def seed0 : SeedV := ⟨0, 0, false, 0, 0, 0, false⟩
structure CliV where
  seeds : List SeedV
  n : Nat
  want : List UInt8
  run : Int
  now : Int
/-- Is piece i under way? -/
def SeedV.has (s : SeedV) (i : Int) : Bool := s.under && decide (s.frm ≤ i) && decide (i < s.frm + s.cnt)
def flyB (S : List SeedV) (i : Nat) : Bool := S.any fun s => s.has i
/-- May piece i be got? -/
def CliV.free (c : CliV) (i : Nat) : Bool := bitL c.want i && !(flyB c.seeds i)
/-- How many pieces one behind the other may be got, from i on; d: how many there are from i on. -/
def lenF (f : Nat → Bool) (i : Nat) : Nat → Nat
  | 0 => 0
  | d + 1 => if f i then lenF f (i + 1) d + 1 else 0
theorem lenF_le (f : Nat → Bool) : ∀ (d i : Nat), lenF f i d ≤ d
  | 0, _ => by simp [lenF]
  | d + 1, i => by
    have := lenF_le f d (i + 1)
    rw [lenF]
    split <;> omega
theorem lenF_all (f : Nat → Bool) : ∀ (d i k : Nat), k < lenF f i d → f (i + k) = true
  | 0, _, _, h => by simp [lenF] at h
  | d + 1, i, k, h => by
    rw [lenF] at h
    split at h
    · next q =>
      cases k with
      | zero => exact q
      | succ k =>
        have := lenF_all f d (i + 1) k (by omega)
        rwa [show i + 1 + k = i + (k + 1) by omega] at this
    · omega
theorem lenF_end (f : Nat → Bool) : ∀ (d i : Nat), lenF f i d < d → f (i + lenF f i d) = false
  | 0, _, h => by omega
  | d + 1, i, h => by
    rw [lenF] at h ⊢
    split
    · next q =>
      rw [if_pos q] at h
      have := lenF_end f d (i + 1) (by omega)
      rwa [show i + 1 + lenF f (i + 1) d = i + (lenF f (i + 1) d + 1) by omega] at this
    · next q => simpa using q
theorem lenF_step (f : Nat → Bool) {i d : Nat} (h : f i = true) : lenF f i (d + 1) = lenF f (i + 1) d + 1 := by rw [lenF, if_pos h]
/-- The maximal runs from i on, of n pieces. -/
def runsG (f : Nat → Bool) (n : Nat) : Nat → Nat → List (Nat × Nat)
  | 0, _ => []
  | fuel + 1, i => if i < n then (if lenF f i (n - i) = 0 then runsG f n fuel (i + 1) else (i, lenF f i (n - i)) :: runsG f n fuel (i + lenF f i (n - i) + 1)) else []
def runsF (f : Nat → Bool) (n : Nat) (i : Nat) : List (Nat × Nat) := runsG f n (n - i) i
theorem runsG_end (f : Nat → Bool) (n : Nat) : ∀ (fuel i : Nat), n ≤ i → runsG f n fuel i = []
  | 0, _, _ => rfl
  | fuel + 1, i, h => by rw [runsG, if_neg (by omega)]
theorem runsG_fuel (f : Nat → Bool) (n : Nat) : ∀ (fuel fuel' i : Nat), n - i ≤ fuel → n - i ≤ fuel' → runsG f n fuel i = runsG f n fuel' i
  | 0, fuel', i, h, _ => by rw [runsG_end f n fuel' i (by omega)]; rfl
  | fuel + 1, 0, i, _, h => by rw [runsG_end f n (fuel + 1) i (by omega)]; rfl
  | fuel + 1, fuel' + 1, i, h1, h2 => by
    rw [runsG, runsG]
    split
    · next hi =>
      split
      · exact runsG_fuel f n fuel fuel' (i + 1) (by omega) (by omega)
      · rw [runsG_fuel f n fuel fuel' (i + lenF f i (n - i) + 1) (by omega) (by omega)]
    · rfl
theorem runsF_end {f : Nat → Bool} {n i : Nat} (h : n ≤ i) : runsF f n i = [] := runsG_end f n _ i h
theorem runsF_none {f : Nat → Bool} {n i : Nat} (h : i < n) (h0 : lenF f i (n - i) = 0) : runsF f n i = runsF f n (i + 1) := by
  unfold runsF
  obtain ⟨d, hd⟩ : ∃ d, n - i = d + 1 := ⟨n - i - 1, by omega⟩
  rw [hd, runsG, if_pos h, if_pos h0]
  exact runsG_fuel f n _ _ _ (by omega) (by omega)
theorem runsF_some {f : Nat → Bool} {n i : Nat} (h : i < n) (h0 : lenF f i (n - i) ≠ 0) : runsF f n i = (i, lenF f i (n - i)) :: runsF f n (i + lenF f i (n - i) + 1) := by
  unfold runsF
  obtain ⟨d, hd⟩ : ∃ d, n - i = d + 1 := ⟨n - i - 1, by omega⟩
  have := runsG_fuel f n d (n - (i + lenF f i (n - i) + 1)) (i + lenF f i (n - i) + 1) (by omega) (by omega)
  conv => lhs; rw [hd, runsG, if_pos h, if_neg h0]
  rw [this]
/-- Each run is one of pieces that may be got; and each such piece lies in one. -/
theorem runs_good (f : Nat → Bool) (n : Nat) : ∀ (fuel i : Nat), n - i ≤ fuel → ∀ r ∈ runsF f n i, i ≤ r.1 ∧ 1 ≤ r.2 ∧ r.1 + r.2 ≤ n ∧ ∀ k, r.1 ≤ k → k < r.1 + r.2 → f k = true
  | 0, i, h, r, hr => by rw [runsF_end (by omega)] at hr; simp at hr
  | fuel + 1, i, h, r, hr => by
    by_cases hi : i < n
    · by_cases h0 : lenF f i (n - i) = 0
      · rw [runsF_none hi h0] at hr
        obtain ⟨a, b⟩ := runs_good f n fuel (i + 1) (by omega) r hr
        exact ⟨by omega, b⟩
      · rw [runsF_some hi h0] at hr
        have hle := lenF_le f (n - i) i
        rcases List.mem_cons.1 hr with rfl | hr
        · refine ⟨Nat.le_refl _, by simp only; omega, by simp only; omega, fun k h1 h2 => ?_⟩
          have := lenF_all f (n - i) i (k - i) (by simp only at h2; omega)
          simp only at h1
          rwa [show i + (k - i) = k by omega] at this
        · obtain ⟨a, b⟩ := runs_good f n fuel _ (by omega) r hr
          exact ⟨by omega, b⟩
    · rw [runsF_end (by omega)] at hr; simp at hr
theorem runs_all (f : Nat → Bool) (n : Nat) : ∀ (fuel i : Nat), n - i ≤ fuel → ∀ k, i ≤ k → k < n → f k = true → runsF f n i ≠ []
  | 0, i, h, k, h1, h2, _ => by omega
  | fuel + 1, i, h, k, h1, h2, hk => by
    have hi : i < n := by omega
    by_cases h0 : lenF f i (n - i) = 0
    · rw [runsF_none hi h0]
      by_cases e : k = i
      · subst e
        obtain ⟨d, hd⟩ : ∃ d, n - k = d + 1 := ⟨n - k - 1, by omega⟩
        rw [hd, lenF, if_pos hk] at h0
        omega
      · exact runs_all f n fuel (i + 1) (by omega) k (by omega) h2 hk
    · rw [runsF_some hi h0]; simp
/-- The first one of the runs of which most pieces are counted, each as at most m. -/
def bestG (m : Int) : Option (Nat × Nat) → List (Nat × Nat) → Option (Nat × Nat)
  | b, [] => b
  | none, r :: l => bestG m (some r) l
  | some b, r :: l => bestG m (if min (b.2 : Int) m < min (r.2 : Int) m then some r else some b) l
theorem best_mem (m : Int) : ∀ (l : List (Nat × Nat)) (b : Option (Nat × Nat)) (r : Nat × Nat), bestG m b l = some r → b = some r ∨ r ∈ l
  | [], b, r, h => .inl h
  | x :: l, none, r, h => by
    rcases best_mem m l (some x) r h with q | q
    · injection q with q; exact .inr (by simp [q])
    · exact .inr (by simp [q])
  | x :: l, some b, r, h => by
    rw [bestG] at h
    rcases best_mem m l _ r h with q | q
    · split at q
      · injection q with q; exact .inr (by simp [q])
      · exact .inl q
    · exact .inr (by simp [q])
theorem best_none (m : Int) : ∀ (l : List (Nat × Nat)) (b : Option (Nat × Nat)), bestG m b l = none → b = none ∧ l = []
  | [], b, h => ⟨h, rfl⟩
  | x :: l, none, h => by have := (best_none m l _ h).1; cases this
  | x :: l, some b, h => by
    rw [bestG] at h
    have := (best_none m l _ h).1
    split at this <;> cases this
/-- The run that is got next. -/
def CliV.next (c : CliV) : Option (Nat × Nat) := (bestG c.run none (runsF c.free c.n 0)).map fun r => (r.1, min r.2 c.run.toNat)
end Go.Proofs.YtnhgichiedninaaGreatDoor
