/-
  Several texts in one, in their build order. What a row over lists of booleans, numbers and acts opens. Plain facts over the program. No condition. A client of web seeds told in plain words: its seeds, what is wanted, what is under way, the runs that may be got, and the one that is got next. Plain Lean, no program. No condition.
-/
import Derived.Test.YtnhgichiedninaaGreatDoorM5
import Derived.Test.YtnhgichiedninaaGreatDoorM3
import Derived.Deep.Grids
import Derived.Test.YtnhgichiedninaaGreatDoorM4
namespace Go.Proofs.YtnhgichiedninaaGreatDoor
set_option linter.unusedSimpArgs false
set_option linter.unusedVariables false
open Go.ChangeShapes Go.WideShapes Go.ChangeAt Go.RowKit Go.Deep

section
variable {H : Type} {enc : TypeId × Value → H} {w : World} {base : Nat} {held : Bool}
theorem open_boolsX {fuel : Nat} {cs : List Value} {x : DataW H × List MemPlace} (h : DataW.trod enc Tryz.prog w base (fun _ => true) held fuel 23 cs = some x) : ∃ a c l, cs = [.slice a l.length c] ∧ BoolsAt w a c l := by
  rcases open_bools Tryz.underlying23 Tryz.underlying4 (by kernel_rfl) h with ⟨hcs, -⟩ | ⟨a, len, cap, B, hcs, -, hl, hc, -, hx⟩
  · exact ⟨none, 0, [], hcs, by simp, by simp [maxLen], .inl rfl⟩
  · refine ⟨some a, cap, (List.range len).map B, by simpa using hcs, by simpa using hl, hc, ?_⟩
    by_cases hz : len = 0
    · exact .inl (by simp [hz])
    · have h0 := hx 0 (by omega)
      obtain ⟨b, o, sp⟩ := a
      have hs : sp = none := cell_spot h0
      subst hs
      refine .inr ⟨b, o, rfl, World.block_lt_of_cell? _ _ h0, fun i y hy => ?_⟩
      rw [List.getElem?_map] at hy
      obtain ⟨j, hj, rfl⟩ := Option.map_eq_some_iff.1 hy
      obtain ⟨hlt, e⟩ := List.getElem?_eq_some_iff.1 hj
      simp at hlt e
      subst e
      have := hx i (by omega)
      rw [add_none] at this
      exact this
theorem open_numsX {spare : Nat → Bool} {fuel : Nat} {cs : List Value} {x : DataW H × List MemPlace} (h : DataW.trod enc Tryz.prog w base spare held fuel 24 cs = some x) : ∃ a c l, cs = [.slice a l.length c] ∧ NumsAt w a c l := by
  rcases open_ints Tryz.underlying24 Tryz.underlying3 (by kernel_rfl) h with ⟨hcs, -⟩ | ⟨a, len, cap, zs, hcs, -, hl, hc, hm, -, hx, -⟩
  · exact ⟨none, 0, [], hcs, by simp, by simp [maxLen], .inl rfl⟩
  · have hlm : len ≤ zs.length := by rw [hm]; split <;> omega
    have htl : (zs.take len).length = len := by simp; omega
    refine ⟨some a, cap, zs.take len, by rw [htl]; exact hcs, by rw [htl]; exact hl, hc, ?_⟩
    by_cases hz : len = 0
    · exact .inl (by simp [hz])
    · have h0 := hx 0 (by omega)
      obtain ⟨b, o, sp⟩ := a
      have hs : sp = none := cell_spot h0
      subst hs
      refine .inr ⟨b, o, rfl, World.block_lt_of_cell? _ _ h0, fun i y hy => ?_⟩
      rw [List.getElem?_take] at hy
      split at hy
      · have hi := (List.getElem?_eq_some_iff.1 hy).1
        have e := (List.getElem?_eq_some_iff.1 hy).2
        have := hx i hi
        rw [add_none] at this
        rw [this]
        simp [List.getD, List.getElem?_eq_getElem hi, e]
      · cases hy
theorem open_actsX {spare : Nat → Bool} {fuel : Nat} {cs : List Value} {x : DataW H × List MemPlace} (h : DataW.trod enc Tryz.prog w base spare held fuel 43 cs = some x) : ∃ a c l, cs = [.slice a l.length c] ∧ ActsAt w a c l := by
  rcases open_slice_fields Tryz.underlying43 Tryz.underlying48 (by kernel_rfl) (by kernel_rfl) h with ⟨hcs, _⟩ | ⟨a, len, cap, m, D, Pl, hcs, _, hl, hmx, hmm, hxx, hcell⟩
  · exact ⟨none, 0, [], by simpa using hcs, ActsAt.nil w⟩
  · have hlm : len ≤ m := by rw [hmm]; split <;> omega
    have hc : ∀ i, i < len → ∃ f : ActV, w.cell? (a.add (i * 5)) = some (.int .i64 f.kind) ∧ w.cell? (a.add (i * 5 + 1)) = some (.int .i64 f.later) ∧ w.cell? (a.add (i * 5 + 2)) = some (.int .i64 f.web) ∧ w.cell? (a.add (i * 5 + 3)) = some (.int .i64 f.piece) ∧ w.cell? (a.add (i * 5 + 4)) = some (.bool f.flag) := by
      intro i hi
      obtain ⟨ys, n, hD, _, _, hfs⟩ := hcell i (by omega)
      obtain ⟨u0, y0, e0, -, t0⟩ := hfs 0 _ rfl
      obtain ⟨u1, y1, e1, -, t1⟩ := hfs 1 _ rfl
      obtain ⟨u2, y2, e2, -, t2⟩ := hfs 2 _ rfl
      obtain ⟨u3, y3, e3, -, t3⟩ := hfs 3 _ rfl
      obtain ⟨u4, y4, e4, -, t4⟩ := hfs 4 _ rfl
      obtain ⟨x0, c0, -⟩ := DataW.trod_int Tryz.underlying3 t0
      obtain ⟨x1, c1, -⟩ := DataW.trod_int Tryz.underlying3 t1
      obtain ⟨x2, c2, -⟩ := DataW.trod_int Tryz.underlying3 t2
      obtain ⟨x3, c3, -⟩ := DataW.trod_int Tryz.underlying3 t3
      obtain ⟨x4, c4, -⟩ := DataW.trod_bool Tryz.underlying4 t4
      simp at c0 c1 c2 c3 c4
      subst c0 c1 c2 c3 c4
      exact ⟨⟨x0, x1, x2, x3, x4⟩, e0, e1, e2, e3, e4⟩
    obtain ⟨L, hL, hp⟩ := list_of len hc
    subst hL
    refine ⟨some a, cap, L, hcs, hl, hmx, ?_⟩
    by_cases hz : L.length = 0
    · exact .inl (List.eq_nil_of_length_eq_zero hz)
    · obtain ⟨f, e0, -⟩ := hc 0 (by omega)
      have hs := cell_spot e0
      obtain ⟨b, o, sp⟩ := a
      have hs' : sp = none := hs
      subst hs'
      refine .inr ⟨b, o, rfl, World.block_lt_of_cell? _ _ e0, fun i f hf => ?_⟩
      obtain ⟨q0, q1, q2, q3, q4⟩ := hp i f hf
      rw [add_none] at q0 q1 q2 q3 q4
      exact ⟨q0, by simpa [Nat.add_assoc] using q1, by simpa [Nat.add_assoc] using q2, by simpa [Nat.add_assoc] using q3, by simpa [Nat.add_assoc] using q4⟩
end
end Go.Proofs.YtnhgichiedninaaGreatDoor

namespace Go.Proofs.YtnhgichiedninaaGreatDoor
set_option linter.unusedSimpArgs false
set_option linter.unusedVariables false

structure SeedV where
  frm : Int
  cnt : Int
  under : Bool
  fails : Int
  bad : Int
  after : Int
  out : Bool
deriving DecidableEq, Repr
def seed0 : SeedV := ⟨0, 0, false, 0, 0, 0, false⟩
structure CliV where
  seeds : List SeedV
  n : Nat
  want : List UInt8
  run : Int
  now : Int
/-- Is piece i under way? -/
def SeedV.has (s : SeedV) (i : Int) : Bool := s.under && decide (s.frm ≤ i) && decide (i < s.frm + s.cnt)
def flyB (S : List SeedV) (i : Nat) : Bool := S.any fun s => s.has i
/-- May piece i be got? -/
def CliV.free (c : CliV) (i : Nat) : Bool := bitL c.want i && !(flyB c.seeds i)
/-- How many pieces one behind the other may be got, from i on; d: how many there are from i on. -/
def lenF (f : Nat → Bool) (i : Nat) : Nat → Nat
  | 0 => 0
  | d + 1 => if f i then lenF f (i + 1) d + 1 else 0
theorem lenF_le (f : Nat → Bool) : ∀ (d i : Nat), lenF f i d ≤ d
  | 0, _ => by simp [lenF]
  | d + 1, i => by
    have := lenF_le f d (i + 1)
    rw [lenF]
    split <;> omega
theorem lenF_all (f : Nat → Bool) : ∀ (d i k : Nat), k < lenF f i d → f (i + k) = true
  | 0, _, _, h => by simp [lenF] at h
  | d + 1, i, k, h => by
    rw [lenF] at h
    split at h
    · next q =>
      cases k with
      | zero => exact q
      | succ k =>
        have := lenF_all f d (i + 1) k (by omega)
        rwa [show i + 1 + k = i + (k + 1) by omega] at this
    · omega
theorem lenF_end (f : Nat → Bool) : ∀ (d i : Nat), lenF f i d < d → f (i + lenF f i d) = false
  | 0, _, h => by omega
  | d + 1, i, h => by
    rw [lenF] at h ⊢
    split
    · next q =>
      rw [if_pos q] at h
      have := lenF_end f d (i + 1) (by omega)
      rwa [show i + 1 + lenF f (i + 1) d = i + (lenF f (i + 1) d + 1) by omega] at this
    · next q => simpa using q
theorem lenF_step (f : Nat → Bool) {i d : Nat} (h : f i = true) : lenF f i (d + 1) = lenF f (i + 1) d + 1 := by rw [lenF, if_pos h]
/-- The maximal runs from i on, of n pieces. -/
def runsG (f : Nat → Bool) (n : Nat) : Nat → Nat → List (Nat × Nat)
  | 0, _ => []
  | fuel + 1, i => if i < n then (if lenF f i (n - i) = 0 then runsG f n fuel (i + 1) else (i, lenF f i (n - i)) :: runsG f n fuel (i + lenF f i (n - i) + 1)) else []
def runsF (f : Nat → Bool) (n : Nat) (i : Nat) : List (Nat × Nat) := runsG f n (n - i) i
theorem runsG_end (f : Nat → Bool) (n : Nat) : ∀ (fuel i : Nat), n ≤ i → runsG f n fuel i = []
  | 0, _, _ => rfl
  | fuel + 1, i, h => by rw [runsG, if_neg (by omega)]
theorem runsG_fuel (f : Nat → Bool) (n : Nat) : ∀ (fuel fuel' i : Nat), n - i ≤ fuel → n - i ≤ fuel' → runsG f n fuel i = runsG f n fuel' i
  | 0, fuel', i, h, _ => by rw [runsG_end f n fuel' i (by omega)]; rfl
  | fuel + 1, 0, i, _, h => by rw [runsG_end f n (fuel + 1) i (by omega)]; rfl
  | fuel + 1, fuel' + 1, i, h1, h2 => by
    rw [runsG, runsG]
    split
    · next hi =>
      split
      · exact runsG_fuel f n fuel fuel' (i + 1) (by omega) (by omega)
      · rw [runsG_fuel f n fuel fuel' (i + lenF f i (n - i) + 1) (by omega) (by omega)]
    · rfl
theorem runsF_end {f : Nat → Bool} {n i : Nat} (h : n ≤ i) : runsF f n i = [] := runsG_end f n _ i h
theorem runsF_none {f : Nat → Bool} {n i : Nat} (h : i < n) (h0 : lenF f i (n - i) = 0) : runsF f n i = runsF f n (i + 1) := by
  unfold runsF
  obtain ⟨d, hd⟩ : ∃ d, n - i = d + 1 := ⟨n - i - 1, by omega⟩
  rw [hd, runsG, if_pos h, if_pos h0]
  exact runsG_fuel f n _ _ _ (by omega) (by omega)
theorem runsF_some {f : Nat → Bool} {n i : Nat} (h : i < n) (h0 : lenF f i (n - i) ≠ 0) : runsF f n i = (i, lenF f i (n - i)) :: runsF f n (i + lenF f i (n - i) + 1) := by
  unfold runsF
  obtain ⟨d, hd⟩ : ∃ d, n - i = d + 1 := ⟨n - i - 1, by omega⟩
  have := runsG_fuel f n d (n - (i + lenF f i (n - i) + 1)) (i + lenF f i (n - i) + 1) (by omega) (by omega)
  conv => lhs; rw [hd, runsG, if_pos h, if_neg h0]
  rw [this]
/-- Each run is one of pieces that may be got; and each such piece lies in one. -/
theorem runs_good (f : Nat → Bool) (n : Nat) : ∀ (fuel i : Nat), n - i ≤ fuel → ∀ r ∈ runsF f n i, i ≤ r.1 ∧ 1 ≤ r.2 ∧ r.1 + r.2 ≤ n ∧ ∀ k, r.1 ≤ k → k < r.1 + r.2 → f k = true
  | 0, i, h, r, hr => by rw [runsF_end (by omega)] at hr; simp at hr
  | fuel + 1, i, h, r, hr => by
    by_cases hi : i < n
    · by_cases h0 : lenF f i (n - i) = 0
      · rw [runsF_none hi h0] at hr
        obtain ⟨a, b⟩ := runs_good f n fuel (i + 1) (by omega) r hr
        exact ⟨by omega, b⟩
      · rw [runsF_some hi h0] at hr
        have hle := lenF_le f (n - i) i
        rcases List.mem_cons.1 hr with rfl | hr
        · refine ⟨Nat.le_refl _, by simp only; omega, by simp only; omega, fun k h1 h2 => ?_⟩
          have := lenF_all f (n - i) i (k - i) (by simp only at h2; omega)
          simp only at h1
          rwa [show i + (k - i) = k by omega] at this
        · obtain ⟨a, b⟩ := runs_good f n fuel _ (by omega) r hr
          exact ⟨by omega, b⟩
    · rw [runsF_end (by omega)] at hr; simp at hr
theorem runs_all (f : Nat → Bool) (n : Nat) : ∀ (fuel i : Nat), n - i ≤ fuel → ∀ k, i ≤ k → k < n → f k = true → runsF f n i ≠ []
  | 0, i, h, k, h1, h2, _ => by omega
  | fuel + 1, i, h, k, h1, h2, hk => by
    have hi : i < n := by omega
    by_cases h0 : lenF f i (n - i) = 0
    · rw [runsF_none hi h0]
      by_cases e : k = i
      · subst e
        obtain ⟨d, hd⟩ : ∃ d, n - k = d + 1 := ⟨n - k - 1, by omega⟩
        rw [hd, lenF, if_pos hk] at h0
        omega
      · exact runs_all f n fuel (i + 1) (by omega) k (by omega) h2 hk
    · rw [runsF_some hi h0]; simp
/-- The first one of the runs of which most pieces are counted, each as at most m. -/
def bestG (m : Int) : Option (Nat × Nat) → List (Nat × Nat) → Option (Nat × Nat)
  | b, [] => b
  | none, r :: l => bestG m (some r) l
  | some b, r :: l => bestG m (if min (b.2 : Int) m < min (r.2 : Int) m then some r else some b) l
theorem best_mem (m : Int) : ∀ (l : List (Nat × Nat)) (b : Option (Nat × Nat)) (r : Nat × Nat), bestG m b l = some r → b = some r ∨ r ∈ l
  | [], b, r, h => .inl h
  | x :: l, none, r, h => by
    rcases best_mem m l (some x) r h with q | q
    · injection q with q; exact .inr (by simp [q])
    · exact .inr (by simp [q])
  | x :: l, some b, r, h => by
    rw [bestG] at h
    rcases best_mem m l _ r h with q | q
    · split at q
      · injection q with q; exact .inr (by simp [q])
      · exact .inl q
    · exact .inr (by simp [q])
theorem best_none (m : Int) : ∀ (l : List (Nat × Nat)) (b : Option (Nat × Nat)), bestG m b l = none → b = none ∧ l = []
  | [], b, h => ⟨h, rfl⟩
  | x :: l, none, h => by have := (best_none m l _ h).1; cases this
  | x :: l, some b, h => by
    rw [bestG] at h
    have := (best_none m l _ h).1
    split at this <;> cases this
/-- The run that is got next. -/
def CliV.next (c : CliV) : Option (Nat × Nat) := (bestG c.run none (runsF c.free c.n 0)).map fun r => (r.1, min r.2 c.run.toNat)
end Go.Proofs.YtnhgichiedninaaGreatDoor
