/-
  Several texts in one, in their build order. The law WebOnce told in plain words: what a client has, what came, and how much is left. Plain Lean, no program. No condition.
-/
import Derived.Test.YtnhgichiedninaaGreatDoorM14
namespace Go.Proofs.YtnhgichiedninaaGreatDoor
set_option linter.unusedSimpArgs false
set_option linter.unusedVariables false

theorem fly_iff {S : List SeedV} {i : Nat} : flyB S i = true ↔ ∃ (j : Nat) (s : SeedV), S[j]? = some s ∧ s.has i = true := by
  unfold flyB
  rw [List.any_eq_true]
  constructor
  · rintro ⟨s, hs, h⟩
    obtain ⟨j, hj⟩ := List.getElem?_of_mem hs
    exact ⟨j, s, hj, h⟩
  · rintro ⟨j, s, hj, h⟩
    exact ⟨s, List.mem_of_getElem? hj, h⟩
theorem fly_set {S : List SeedV} {k i : Nat} {t : SeedV} (hk : k < S.length) : flyB (S.set k t) i = true ↔ t.has i = true ∨ ∃ (j : Nat) (s : SeedV), j ≠ k ∧ S[j]? = some s ∧ s.has i = true := by
  rw [fly_iff]
  constructor
  · rintro ⟨j, s, hj, h⟩
    by_cases e : k = j
    · subst e
      rw [List.getElem?_set_self hk] at hj
      cases hj
      exact .inl h
    · rw [List.getElem?_set_ne e] at hj
      exact .inr ⟨j, s, fun q => e q.symm, hj, h⟩
  · rintro (h | ⟨j, s, hne, hj, h⟩)
    · exact ⟨k, t, List.getElem?_set_self hk, h⟩
    · exact ⟨j, s, by rw [List.getElem?_set_ne (fun q => hne q.symm)]; exact hj, h⟩
theorem has_iff {s : SeedV} {i : Nat} : s.has i = true ↔ s.under = true ∧ s.frm ≤ i ∧ (i : Int) < s.frm + s.cnt := by
  unfold SeedV.has
  simp [and_assoc]
/-- How many pieces may be got, and how much is left to be done. -/
def CliV.freeN (c : CliV) : Nat := (List.range c.n).countP c.free
def CliV.mu (c : CliV) : Nat := 2 * c.freeN + c.seeds.countP (·.under)
theorem countP_lt {l : List Nat} {p q : Nat → Bool} (h : ∀ x ∈ l, p x = true → q x = true) {a : Nat} (ha : a ∈ l) (h1 : p a = false) (h2 : q a = true) : l.countP p + 1 ≤ l.countP q := by
  induction l with
  | nil => simp at ha
  | cons x l ih =>
    rw [List.countP_cons, List.countP_cons]
    have hle : l.countP p ≤ l.countP q := List.countP_mono_left (fun y hy => h y (List.mem_cons_of_mem _ hy))
    rcases List.mem_cons.1 ha with e | e
    · subst e
      rw [h1, h2]
      simp
      omega
    · have := ih (fun y hy => h y (List.mem_cons_of_mem _ hy)) e
      have hx := h x (List.mem_cons_self ..)
      cases hp : p x with
      | false => cases hq : q x <;> simp <;> omega
      | true => rw [hx hp]; simp; omega
structure OnceAt (W : List Bool) (c : CliV) (K : List Nat) : Prop where
  n : c.n = W.length
  some' : 1 ≤ c.seeds.length
  run : 1 ≤ c.run
  calm : ∀ s ∈ c.seeds, s.out = false ∧ s.after = 0
  rng : ∀ s ∈ c.seeds, 0 ≤ s.frm ∧ 0 ≤ s.cnt ∧ s.frm + s.cnt ≤ c.n
  apart : ∀ (a b : Nat) (s t : SeedV), a ≠ b → c.seeds[a]? = some s → c.seeds[b]? = some t → ∀ i : Nat, s.has i = true → t.has i = true → False
  fly : ∀ i, flyB c.seeds i = true → bitL c.want i = true
  bit : ∀ i, i < c.n → bitL c.want i = true → W[i]? = some true ∧ i ∉ K
  nobit : ∀ i, i < c.n → bitL c.want i = false → (i ∈ K ↔ W[i]? = some true)
  keys : ∀ i ∈ K, i < c.n
  nodup : K.Nodup
  fld : FieldOf c.n c.want
theorem OnceAt.start {W : List Bool} {m : Nat} {F : List UInt8} {run : Int} (hm : 1 ≤ m) (hr : 1 ≤ run) (hF : FieldOf W.length F) (hb : ∀ i, i < W.length → bitL F i = W.getD i false) : OnceAt W ⟨List.replicate m seed0, W.length, F, run, 0⟩ [] ∧ CliV.mu ⟨List.replicate m seed0, W.length, F, run, 0⟩ ≤ 2 * W.length := by
  have hno : ∀ (j : Nat) (s : SeedV), (List.replicate m seed0)[j]? = some s → s = seed0 := fun j s h => by
    rw [List.getElem?_replicate] at h
    split at h
    · injection h with h; exact h.symm
    · cases h
  have hW : ∀ i, i < W.length → (bitL F i = true ↔ W[i]? = some true) := fun i hi => by
    rw [hb i hi, List.getD_eq_getElem?_getD, List.getElem?_eq_getElem hi]
    simp
  refine ⟨⟨rfl, by simpa using hm, hr, fun s hs => ?_, fun s hs => ?_, fun a b s t _ ha hb i h1 h2 => ?_, fun i h => ?_, fun i hi h => ⟨(hW i hi).1 h, by simp⟩, fun i hi h => ⟨fun q => by simp at q, fun q => ?_⟩, by simp, by simp, hF⟩, ?_⟩
  · rw [List.eq_of_mem_replicate hs]; exact ⟨rfl, rfl⟩
  · rw [List.eq_of_mem_replicate hs]; exact ⟨by decide, by decide, by show (0 : Int) + 0 ≤ _; omega⟩
  · have := hno a s ha
    subst this
    simp [has_iff, seed0] at h1
  · obtain ⟨j, s, hj, h⟩ := fly_iff.1 h
    have := hno j s hj
    subst this
    simp [has_iff, seed0] at h
  · have := (hW i hi).2 q
    exact absurd this (by show ¬ bitL F i = true; rw [show bitL F i = false from h]; simp)
  · unfold CliV.mu CliV.freeN
    have h1 : (List.replicate m seed0).countP (·.under) = 0 := by
      rw [List.countP_eq_zero]
      intro s hs
      rw [List.eq_of_mem_replicate hs]
      decide
    have h2 := List.countP_le_length (p := CliV.free ⟨List.replicate m seed0, W.length, F, run, 0⟩) (l := List.range W.length)
    simp only [List.length_range] at h2
    show 2 * (List.range W.length).countP _ + (List.replicate m seed0).countP _ ≤ _
    omega
/-- Next gives a run of pieces that are wanted and did not come. -/
theorem OnceAt.next {W : List Bool} {c : CliV} {K : List Nat} (h : OnceAt W c K) {now : Int} (hok : c.nextE now = 0) {k : Nat} (hk : c.nIdx now = some k) :
    OnceAt W (c.nextC now) K ∧ (c.nextC now).mu + 1 ≤ c.mu ∧ (c.nextC now).now = now ∧ (c.nextC now).seeds.length = c.seeds.length ∧ (∀ i : Nat, c.nFrm ≤ i → (i : Int) < c.nFrm + c.nCnt → W[i]? = some true ∧ i ∉ K) ∧ 0 ≤ c.nFrm ∧ 1 ≤ c.nCnt ∧ c.nFrm + c.nCnt ≤ W.length ∧ now ≤ 1000000000 ∧
      ∃ s, (c.nextC now).seeds[k]? = some s ∧ s.under = true ∧ s.frm = c.nFrm ∧ s.cnt = c.nCnt := by
  obtain ⟨ha, k2, b, hk2, hb⟩ := next_facts hok
  obtain ⟨e1, e2, e3, e4, e5⟩ := best_facts hb h.run
  rw [hk] at hk2
  cases hk2
  have hf : k < c.seeds.length ∧ freeS now (c.seeds[k]?.getD seed0) = true := by
    unfold CliV.nIdx at hk
    obtain ⟨q1, q2, -⟩ := List.findIdx?_eq_some_iff_getElem.1 hk
    exact ⟨q1, by rw [List.getElem?_eq_getElem q1]; exact q2⟩
  obtain ⟨hkl, hfr⟩ := hf
  obtain ⟨s, hs⟩ : ∃ s, c.seeds[k]? = some s := ⟨_, List.getElem?_eq_getElem hkl⟩
  rw [hs] at hfr
  have hu : s.under = false := by
    simp only [freeS, Option.getD_some, Bool.and_eq_true, Bool.not_eq_true'] at hfr
    exact hfr.1.2
  have hC : c.nextC now = ⟨c.seeds.set k (s.start c.nFrm c.nCnt), c.n, c.want, c.run, now⟩ := by
    unfold CliV.nextC
    rw [hk]
    simp only [hs]
  have hsh : ∀ i : Nat, (s.start c.nFrm c.nCnt).has i = true ↔ (b.1 ≤ i ∧ (i : Int) < c.nFrm + c.nCnt) := fun i => by
    rw [has_iff]
    simp only [SeedV.start, true_and, e1]
    omega
  have hfree : ∀ i : Nat, b.1 ≤ i → (i : Int) < c.nFrm + c.nCnt → c.free i = true := fun i h1 h2 => e5 i h1 (by omega)
  have hfx : ∀ i : Nat, c.free i = true → bitL c.want i = true ∧ flyB c.seeds i = false := fun i q => by
    unfold CliV.free at q
    simpa using q
  have hoth : ∀ (j : Nat) (t : SeedV) (i : Nat), c.seeds[j]? = some t → t.has i = true → b.1 ≤ i → (i : Int) < c.nFrm + c.nCnt → False := fun j t i hj ht h1 h2 => by
    have := (hfx i (hfree i h1 h2)).2
    rw [fly_iff.2 ⟨j, t, hj, ht⟩] at this
    cases this
  have hWf : ∀ i : Nat, c.nFrm ≤ i → (i : Int) < c.nFrm + c.nCnt → W[i]? = some true ∧ i ∉ K := fun i h1 h2 => h.bit i (by omega) (hfx i (hfree i (by omega) h2)).1
  have hn := h.n
  rw [hC]
  refine ⟨⟨h.n, by simpa using h.some', h.run, fun t ht => ?_, fun t ht => ?_, fun x y t u hne hx hy i h1 h2 => ?_, fun i hi => ?_, h.bit, h.nobit, h.keys, h.nodup, h.fld⟩, ?_, rfl, by simp, hWf, by omega, e3, by omega, (at_facts ha).2, _, List.getElem?_set_self hkl, rfl, rfl, rfl⟩
  · rcases List.mem_or_eq_of_mem_set ht with q | q
    · exact h.calm t q
    · rw [q]; exact h.calm s (List.mem_of_getElem? hs)
  · rcases List.mem_or_eq_of_mem_set ht with q | q
    · exact h.rng t q
    · rw [q]; refine ⟨by show 0 ≤ c.nFrm; omega, by show 0 ≤ c.nCnt; omega, by show c.nFrm + c.nCnt ≤ c.n; omega⟩
  · simp only at hx hy
    by_cases ex : k = x
    · subst ex
      rw [List.getElem?_set_self hkl] at hx
      cases hx
      rw [List.getElem?_set_ne hne] at hy
      obtain ⟨q1, q2⟩ := (hsh i).1 h1
      exact hoth y u i hy h2 q1 q2
    · rw [List.getElem?_set_ne ex] at hx
      by_cases ey : k = y
      · subst ey
        rw [List.getElem?_set_self hkl] at hy
        cases hy
        obtain ⟨q1, q2⟩ := (hsh i).1 h2
        exact hoth x t i hx h1 q1 q2
      · rw [List.getElem?_set_ne ey] at hy
        exact h.apart x y t u hne hx hy i h1 h2
  · rcases (fly_set hkl).1 hi with q | ⟨j, t, -, hj, ht⟩
    · obtain ⟨q1, q2⟩ := (hsh i).1 q
      exact (hfx i (hfree i q1 q2)).1
    · exact h.fly i (fly_iff.2 ⟨j, t, hj, ht⟩)
  · unfold CliV.mu CliV.freeN
    simp only
    have hun : (c.seeds.set k (s.start c.nFrm c.nCnt)).countP (·.under) = c.seeds.countP (·.under) + 1 := by
      rw [List.countP_set hkl]
      have : c.seeds[k] = s := (List.getElem?_eq_some_iff.1 hs).2
      rw [this, hu]
      simp [SeedV.start]
    have hle : (List.range c.n).countP (CliV.free ⟨c.seeds.set k (s.start c.nFrm c.nCnt), c.n, c.want, c.run, now⟩) + 1 ≤ (List.range c.n).countP c.free := by
      have hfnew : ∀ i : Nat, CliV.free ⟨c.seeds.set k (s.start c.nFrm c.nCnt), c.n, c.want, c.run, now⟩ i = true → c.free i = true ∧ ¬ (b.1 ≤ i ∧ (i : Int) < c.nFrm + c.nCnt) := fun i q => by
        unfold CliV.free at q ⊢
        simp only [Bool.and_eq_true, Bool.not_eq_true'] at q ⊢
        refine ⟨⟨q.1, ?_⟩, fun hr => ?_⟩
        · cases hfb : flyB c.seeds i with
          | false => rfl
          | true =>
            obtain ⟨j, t, hj, ht⟩ := fly_iff.1 hfb
            have hjk : j ≠ k := fun e => by
              subst e
              rw [hs] at hj
              cases hj
              have := (has_iff.1 ht).1
              rw [hu] at this
              cases this
            have := (fly_set (t := s.start c.nFrm c.nCnt) hkl).2 (.inr ⟨j, t, hjk, hj, ht⟩)
            rw [this] at q
            exact q.2.symm ▸ rfl
        · have := (fly_set (S := c.seeds) (i := i) hkl).2 (.inl ((hsh i).2 hr))
          rw [this] at q
          cases q.2
      refine countP_lt (fun i _ q => (hfnew i q).1) (a := b.1) (List.mem_range.2 (by omega)) ?_ (hfree b.1 (Nat.le_refl _) (by omega))
      cases hq : CliV.free ⟨c.seeds.set k (s.start c.nFrm c.nCnt), c.n, c.want, c.run, now⟩ b.1 with
      | false => rfl
      | true => exact absurd ⟨Nat.le_refl _, by omega⟩ (hfnew _ hq).2
    omega
/-! ### A run that came -/
theorem clear_bit {n : Nat} {s : List UInt8} (h : FieldOf n s) (a : Nat) : ∀ (j : Nat), a + j ≤ n → FieldOf n (clearW s a j) ∧ ∀ i, bitL (clearW s a j) i = if a ≤ i ∧ i < a + j then false else bitL s i
  | 0, _ => ⟨h, fun i => by rw [if_neg (by omega)]; rfl⟩
  | j + 1, hj => by
    obtain ⟨h1, h2⟩ := clear_bit h a j (by omega)
    refine ⟨h1.set (by omega) false, fun i => ?_⟩
    show bitL (setL (clearW s a j) (a + j) false) i = _
    rw [h1.bit_set (by omega), h2 i]
    by_cases e : i = a + j
    · rw [if_pos e, if_pos (by omega)]
    · rw [if_neg e]
      by_cases q : a ≤ i ∧ i < a + j
      · rw [if_pos q, if_pos (by omega)]
      · rw [if_neg q, if_neg (by omega)]
/-- The pieces of a run. -/
def pcsOf (r : Int × Int) : List Nat := List.range' r.1.toNat r.2.toNat
theorem OnceAt.took {W : List Bool} {c : CliV} {K : List Nat} (h : OnceAt W c K) {now : Int} {k : Nat} {s : SeedV} (hs : c.seeds[k]? = some s) (hu : s.under = true) :
    OnceAt W (c.tookC now k s) (K ++ pcsOf (s.frm, s.cnt)) ∧ (c.tookC now k s).mu + 1 = c.mu ∧ (c.tookC now k s).now = now ∧ (c.tookC now k s).seeds.length = c.seeds.length ∧ (∀ j (t : SeedV), j ≠ k → c.seeds[j]? = some t → (c.tookC now k s).seeds[j]? = some t) ∧ (∃ t, (c.tookC now k s).seeds[k]? = some t ∧ t.under = false) ∧ (K ++ pcsOf (s.frm, s.cnt)).Nodup := by
  have hkl := (List.getElem?_eq_some_iff.1 hs).1
  obtain ⟨r1, r2, r3⟩ := h.rng s (List.mem_of_getElem? hs)
  obtain ⟨a, ha⟩ := Int.eq_ofNat_of_zero_le r1
  obtain ⟨m, hm⟩ := Int.eq_ofNat_of_zero_le r2
  have hC : c.tookC now k s = ⟨(c.seeds.set k s.idle).set k s.idle.fresh, c.n, clearW c.want a m, c.run, now⟩ := by
    unfold CliV.tookC CliV.cameC
    simp only [SeedV.idle, ha, hm, Int.toNat_natCast]
  have hss : (c.seeds.set k s.idle).set k s.idle.fresh = c.seeds.set k s.idle.fresh := List.set_set ..
  rw [hss] at hC
  have hmem : ∀ i, i ∈ pcsOf (s.frm, s.cnt) ↔ a ≤ i ∧ i < a + m := fun i => by
    unfold pcsOf
    rw [List.mem_range'_1]
    simp only [ha, hm, Int.toNat_natCast]
  have hsh : ∀ i : Nat, s.has i = true ↔ (a ≤ i ∧ i < a + m) := fun i => by
    rw [has_iff, hu, ha, hm]
    simp only [true_and]
    omega
  have hidle : ∀ i : Nat, s.idle.fresh.has i = true ↔ False := fun i => by
    rw [has_iff]
    simp [SeedV.idle, SeedV.fresh]
  obtain ⟨f1, f2⟩ := clear_bit h.fld a m (by omega)
  have hflyk : ∀ i : Nat, s.has i = true → flyB c.seeds i = true := fun i q => fly_iff.2 ⟨k, s, hs, q⟩
  have hfs : ∀ i : Nat, flyB (c.seeds.set k s.idle.fresh) i = true ↔ flyB c.seeds i = true ∧ ¬ s.has i = true := fun i => by
    rw [fly_set hkl]
    constructor
    · rintro (q | ⟨j, t, hne, hj, ht⟩)
      · exact ((hidle i).1 q).elim
      · exact ⟨fly_iff.2 ⟨j, t, hj, ht⟩, fun q => h.apart j k t s hne hj hs i ht q⟩
    · rintro ⟨q1, q2⟩
      obtain ⟨j, t, hj, ht⟩ := fly_iff.1 q1
      refine .inr ⟨j, t, fun e => ?_, hj, ht⟩
      subst e
      rw [hs] at hj
      cases hj
      exact q2 ht
  have hnod : (K ++ pcsOf (s.frm, s.cnt)).Nodup := by
    rw [List.nodup_append]
    refine ⟨h.nodup, List.nodup_range' .., fun x hx y hy e => ?_⟩
    subst e
    have := (hmem x).1 hy
    exact (h.bit x (by omega) (h.fly x (hflyk x ((hsh x).2 this)))).2 hx
  rw [hC]
  refine ⟨⟨h.n, by simpa using h.some', h.run, fun t ht => ?_, fun t ht => ?_, fun x y t u hne hx hy i h1 h2 => ?_, fun i hi => ?_, fun i hi hb => ?_, fun i hi hb => ?_, fun i hi => ?_, hnod, f1⟩, ?_, rfl, by simp, fun j t hne hj => by simp only; rw [List.getElem?_set_ne (fun e => hne e.symm)]; exact hj, ⟨_, List.getElem?_set_self hkl, rfl⟩, hnod⟩
  · rcases List.mem_or_eq_of_mem_set ht with q | q
    · exact h.calm t q
    · rw [q]; exact ⟨(h.calm s (List.mem_of_getElem? hs)).1, rfl⟩
  · rcases List.mem_or_eq_of_mem_set ht with q | q
    · exact h.rng t q
    · rw [q]; exact ⟨r1, r2, r3⟩
  · simp only at hx hy
    by_cases ex : k = x
    · subst ex
      rw [List.getElem?_set_self hkl] at hx
      cases hx
      exact ((hidle i).1 h1).elim
    · rw [List.getElem?_set_ne ex] at hx
      by_cases ey : k = y
      · subst ey
        rw [List.getElem?_set_self hkl] at hy
        cases hy
        exact ((hidle i).1 h2).elim
      · rw [List.getElem?_set_ne ey] at hy
        exact h.apart x y t u hne hx hy i h1 h2
  · obtain ⟨q1, q2⟩ := (hfs i).1 hi
    show bitL (clearW c.want a m) i = true
    rw [f2 i, if_neg (fun q => q2 ((hsh i).2 q))]
    exact h.fly i q1
  · have hb : bitL (clearW c.want a m) i = true := hb
    rw [f2 i] at hb
    by_cases q : a ≤ i ∧ i < a + m
    · rw [if_pos q] at hb; cases hb
    · rw [if_neg q] at hb
      obtain ⟨q1, q2⟩ := h.bit i hi hb
      refine ⟨q1, fun q3 => ?_⟩
      rcases List.mem_append.1 q3 with q3 | q3
      · exact q2 q3
      · exact q ((hmem i).1 q3)
  · have hb : bitL (clearW c.want a m) i = false := hb
    rw [f2 i] at hb
    rw [List.mem_append, hmem]
    by_cases q : a ≤ i ∧ i < a + m
    · have := h.bit i hi (h.fly i (hflyk i ((hsh i).2 q)))
      exact ⟨fun _ => this.1, fun _ => .inr q⟩
    · rw [if_neg q] at hb
      rw [← h.nobit i hi hb]
      exact ⟨fun q2 => q2.resolve_right q, .inl⟩
  · rcases List.mem_append.1 hi with q | q
    · exact h.keys i q
    · have := (hmem i).1 q
      show i < c.n
      omega
  · unfold CliV.mu CliV.freeN
    simp only
    have hun : (c.seeds.set k s.idle.fresh).countP (·.under) + 1 = c.seeds.countP (·.under) := by
      rw [List.countP_set hkl]
      have he : c.seeds[k] = s := (List.getElem?_eq_some_iff.1 hs).2
      have hpos : 0 < c.seeds.countP (·.under) := List.countP_pos_iff.2 ⟨s, List.mem_of_getElem? hs, hu⟩
      rw [he, hu]
      simp [SeedV.idle, SeedV.fresh]
      omega
    have hfr : (List.range c.n).countP (CliV.free ⟨c.seeds.set k s.idle.fresh, c.n, clearW c.want a m, c.run, now⟩) = (List.range c.n).countP c.free := by
      apply List.countP_congr
      intro i hi
      unfold CliV.free
      simp only [f2 i]
      have h3 := hfs i
      have h4 := hsh i
      by_cases q : a ≤ i ∧ i < a + m
      · rw [if_pos q, hflyk i ((hsh i).2 q)]
        simp
      · rw [if_neg q]
        have h5 : flyB (c.seeds.set k s.idle.fresh) i = flyB c.seeds i := by
          rw [Bool.eq_iff_iff, h3]
          exact ⟨fun x => x.1, fun x => ⟨x, fun y => q (h4.1 y)⟩⟩
        rw [h5]
    omega
/-- When nobody can get anything, and nothing is under way, all that was wanted came. -/
theorem OnceAt.done {W : List Bool} {c : CliV} {K : List Nat} (h : OnceAt W c K) {now : Int} (h0 : c.now ≤ now ∧ now ≤ 1000000000 ∧ 0 ≤ now) (hno : c.nextE now ≠ 0) (hun : ∀ s ∈ c.seeds, s.under = false) :
    (∀ i, i < W.length → (i ∈ K ↔ W[i]? = some true)) ∧ underOf c.seeds = [] := by
  have hfly : ∀ i : Nat, flyB c.seeds i = false := fun i => by
    cases q : flyB c.seeds i with
    | false => rfl
    | true =>
      obtain ⟨j, t, hj, ht⟩ := fly_iff.1 q
      have := (has_iff.1 ht).1
      rw [hun t (List.mem_of_getElem? hj)] at this
      cases this
  have hE : c.atE now = 0 := by
    unfold CliV.atE
    rw [if_neg (by omega)]
  have hidx : (c.nIdx now).isSome = true := by
    unfold CliV.nIdx
    rw [List.findIdx?_isSome, List.any_eq_true]
    have hl := h.some'
    refine ⟨c.seeds[0], List.getElem_mem _, ?_⟩
    obtain ⟨q1, q2⟩ := h.calm c.seeds[0] (List.getElem_mem _)
    unfold freeS
    rw [q1, q2, hun _ (List.getElem_mem _)]
    simp
    omega
  have hbest : c.best = none := by
    cases hb : c.best with
    | none => rfl
    | some b =>
      refine absurd ?_ hno
      unfold CliV.nextE
      rw [if_neg (by rw [hE]; simp), hb, hidx]
      rfl
  obtain ⟨-, hruns⟩ := best_none c.run _ none hbest
  refine ⟨fun i hi => ?_, ?_⟩
  · have hn := h.n
    cases hb : bitL c.want i with
    | false => exact h.nobit i (by omega) hb
    | true =>
      have hf : c.free i = true := by
        unfold CliV.free
        rw [hb, hfly i]
        rfl
      exact absurd hruns (runs_all c.free c.n (c.n - 0) 0 (Nat.le_refl _) i (Nat.zero_le _) (by omega) hf)
  · unfold underOf
    rw [List.map_eq_nil_iff, List.filter_eq_nil_iff]
    intro s hs
    simp [hun s hs]
/-- What is under way does not touch. -/
theorem OnceAt.pcs {W : List Bool} {c : CliV} {K : List Nat} (h : OnceAt W c K) {U : List (Int × Int)} (hU : U.Perm (underOf c.seeds)) : (U.flatMap pcsOf).Nodup := by
  rw [(hU.flatMap_right pcsOf).nodup_iff]
  unfold underOf
  rw [List.Nodup, List.pairwise_flatMap]
  refine ⟨fun r _ => List.nodup_range' .., ?_⟩
  rw [List.pairwise_map, List.pairwise_filter, List.pairwise_iff_getElem]
  intro i j hi hj hij hu1 hu2 x hx y hy e
  subst e
  have hh : ∀ (k : Nat) (hk : k < c.seeds.length), c.seeds[k].under = true → x ∈ pcsOf (c.seeds[k].frm, c.seeds[k].cnt) → c.seeds[k].has x = true := fun k hk hu q => by
    obtain ⟨r1, r2, r3⟩ := h.rng c.seeds[k] (List.getElem_mem hk)
    unfold pcsOf at q
    rw [List.mem_range'_1] at q
    simp only at q
    rw [has_iff]
    exact ⟨hu, by omega, by omega⟩
  exact h.apart i j _ _ (by omega) (List.getElem?_eq_getElem hi) (List.getElem?_eq_getElem hj) x (hh i hi hu1 hx) (hh j hj hu2 hy)
end Go.Proofs.YtnhgichiedninaaGreatDoor
