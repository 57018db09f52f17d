/-
  Several texts in one, in their build order. Plain law (the chooser of web seeds): what each deed leaves alike. The walk of sameRuns: a list of runs is the same as itself. Conditions: both lists lie as told. The walk of alike: a client and its specification stand alike. Conditions: both lie as told, apart from each other, and are alike in the plain sense.
-/
import Derived.Test.YtnhgichiedninaaGreatDoorM38
namespace Go.Proofs.YtnhgichiedninaaGreatDoor
set_option linter.unusedSimpArgs false
set_option linter.unusedVariables false
open Go.RowKit Go.Shelf

theorem toW_start (s : SeedV) (a b : Int) : toW (s.start a b) = (toW s).start a b := rfl
theorem toW_fresh (s : SeedV) : toW s.idle.fresh = (toW s).fresh := rfl
theorem toW_fail (s : SeedV) (now : Int) (gone : Bool) : toW (s.idle.failS now gone) = (toW s).failS now gone := by
  unfold toW SeedV.idle SeedV.failS WebV.failS
  simp only [Bool.false_eq_true, if_false]
  congr 1
  cases gone <;> cases s.out <;> simp
theorem toW_bad (s : SeedV) : toW s.badS = (toW s).badS := rfl
theorem Alk.time {N : Int} {c : CliV} {f : Nat → Option Nat} {r : RefV} (h : Alk N c f r) {t : Int} (ht : 0 ≤ t) : Alk N { c with now := t } f { r with now := t } :=
  ⟨h.webs, h.few, h.lw, h.lg, h.run, rfl, h.fld, h.want, h.gave, h.okay, h.apart, h.run1, ht⟩
theorem getD_set (l : List Bool) (i : Nat) (b : Bool) (hi : i < l.length) (j : Nat) : (l.set i b).getD j false = if j = i then b else l.getD j false := by
  rw [List.getD_eq_getElem?_getD, List.getD_eq_getElem?_getD, List.getElem?_set]
  by_cases e : i = j
  · subst e
    rw [if_pos rfl, if_pos rfl, if_pos hi]
    rfl
  · rw [if_neg e, if_neg (fun q => e q.symm)]
theorem Alk.wants {N : Int} {c : CliV} {f : Nat → Option Nat} {r : RefV} (h : Alk N c f r) {i : Nat} (hi : i < c.n) (b : Bool) : Alk N { c with want := setL c.want i b } f { r with wanted := r.wanted.set i b } :=
  ⟨h.webs, h.few, by show (r.wanted.set i b).length = _; rw [List.length_set, h.lw], h.lg, h.run, h.now, h.fld.set hi b, fun j => by
    show bitL (setL c.want i b) j = (r.wanted.set i b).getD j false
    rw [h.fld.bit_set hi, getD_set _ _ _ (by rw [h.lw]; exact hi), h.want], h.gave, h.okay, h.apart, h.run1, h.now0⟩
/-- One seed is changed: it is under way as it was, or no more. -/
theorem Alk.put {N : Int} {c : CliV} {f : Nat → Option Nat} {r : RefV} (h : Alk N c f r) {k : Nat} {s u : SeedV} (hs : c.seeds[k]? = some s) (hu : Okay c.n N u) (hsame : u.under = true → s.under = true ∧ u.frm = s.frm ∧ u.cnt = s.cnt) : Alk N { c with seeds := c.seeds.set k u } f { r with webs := r.webs.set k (toW u) } := by
  have hk := (List.getElem?_eq_some_iff.1 hs).1
  refine ⟨by show r.webs.set k (toW u) = (c.seeds.set k u).map toW; rw [List.map_set, h.webs], by show 1 ≤ (c.seeds.set k u).length; rw [List.length_set]; exact h.few, h.lw, h.lg, h.run, h.now, h.fld, h.want, h.gave, ?_, ?_, h.run1, h.now0⟩
  · intro x hx
    rcases List.mem_or_eq_of_mem_set hx with q | q
    · exact h.okay x q
    · rw [q]; exact hu
  · intro i j x y hij hx hy ux uy
    have hx2 : (c.seeds.set k u)[i]? = some x := hx
    have hy2 : (c.seeds.set k u)[j]? = some y := hy
    rw [List.getElem?_set] at hx2 hy2
    by_cases e1 : k = i
    · rw [if_pos e1, if_pos hk] at hx2
      cases hx2
      have e2 : ¬ k = j := by omega
      rw [if_neg e2] at hy2
      obtain ⟨a1, a2, a3⟩ := hsame ux
      rw [a2, a3]
      exact h.apart k j s y e2 hs hy2 a1 uy
    · rw [if_neg e1] at hx2
      by_cases e2 : k = j
      · rw [if_pos e2, if_pos hk] at hy2
        cases hy2
        obtain ⟨a1, a2, a3⟩ := hsame uy
        rw [a2, a3]
        exact h.apart i k x s (fun q => e1 q.symm) hx2 hs ux a1
      · rw [if_neg e2] at hy2
        exact h.apart i j x y hij hx2 hy2 ux uy
theorem clearB_get (l : List Bool) (a : Nat) : ∀ (j : Nat), a + j ≤ l.length → ∀ i, (clearB l a j).getD i false = if a ≤ i ∧ i < a + j then false else l.getD i false
  | 0, _, i => by rw [if_neg (by omega)]; rfl
  | j + 1, hj, i => by
    rw [clearB, getD_set _ _ _ (by rw [clearB_len]; omega), clearB_get l a j (by omega) i]
    by_cases e : i = a + j
    · rw [if_pos e, if_pos (by omega)]
    · rw [if_neg e]
      by_cases q : a ≤ i ∧ i < a + j
      · rw [if_pos q, if_pos (by omega)]
      · rw [if_neg q, if_neg (by omega)]
theorem fillG_get (l : List Int) (a : Nat) (n : Int) : ∀ (j : Nat), a + j ≤ l.length → ∀ i, (fillG l a n j)[i]? = if a ≤ i ∧ i < a + j then some n else l[i]?
  | 0, _, i => by rw [if_neg (by omega)]; rfl
  | j + 1, hj, i => by
    rw [fillG, List.getElem?_set]
    by_cases e : a + j = i
    · rw [if_pos e, if_pos (by rw [fillG_len]; omega), if_pos (by omega)]
    · rw [if_neg e, fillG_get l a n j (by omega) i]
      by_cases q : a ≤ i ∧ i < a + j
      · rw [if_pos q, if_pos (by omega)]
      · rw [if_neg q, if_neg (by omega)]
theorem gaveTo_get (f : Nat → Option Nat) (a web : Nat) : ∀ (j i : Nat), gaveTo f a web j i = if a ≤ i ∧ i < a + j then some web else f i
  | 0, i => by rw [if_neg (by omega)]; rfl
  | j + 1, i => by
    show (if i = a + j then some web else gaveTo f a web j i) = _
    by_cases e : i = a + j
    · rw [if_pos e, if_pos (by omega)]
    · rw [if_neg e, gaveTo_get f a web j i]
      by_cases q : a ≤ i ∧ i < a + j
      · rw [if_pos q, if_pos (by omega)]
      · rw [if_neg q, if_neg (by omega)]
theorem Alk.taken {N : Int} {c : CliV} {f : Nat → Option Nat} {r : RefV} (h : Alk N c f r) {a m k : Nat} (ha : a + m ≤ c.n) : Alk N { c with want := clearW c.want a m } (gaveTo f a k m) { r with wanted := clearB r.wanted a m, gave := fillG r.gave a k m } := by
  obtain ⟨h1, h2⟩ := clear_bit h.fld a m ha
  refine ⟨h.webs, h.few, by show (clearB r.wanted a m).length = _; rw [clearB_len, h.lw], by show (fillG r.gave a k m).length = _; rw [fillG_len, h.lg], h.run, h.now, h1, fun i => ?_, fun i hi => ?_, h.okay, h.apart, h.run1, h.now0⟩
  · show bitL (clearW c.want a m) i = (clearB r.wanted a m).getD i false
    rw [h2, clearB_get _ _ _ (by rw [h.lw]; exact ha), h.want]
  · show (fillG r.gave a k m)[i]? = some (giveOf (gaveTo f a k m) i)
    have hi2 : i < c.n := hi
    rw [fillG_get _ _ _ _ (by rw [h.lg]; exact ha), h.gave i hi2]
    unfold giveOf
    rw [gaveTo_get]
    by_cases q : a ≤ i ∧ i < a + m
    · rw [if_pos q, if_pos q]
    · rw [if_neg q, if_neg q]
theorem Alk.ungive {N : Int} {c : CliV} {f : Nat → Option Nat} {r : RefV} (h : Alk N c f r) {i : Nat} (hi : i < c.n) : Alk N c (without f i) { r with gave := r.gave.set i (-1) } := by
  refine ⟨h.webs, h.few, h.lw, by show (r.gave.set i (-1)).length = _; rw [List.length_set, h.lg], h.run, h.now, h.fld, h.want, fun j hj => ?_, h.okay, h.apart, h.run1, h.now0⟩
  show (r.gave.set i (-1))[j]? = some (giveOf (without f i) j)
  unfold giveOf without
  rw [List.getElem?_set]
  by_cases e : i = j
  · rw [if_pos e, if_pos (by rw [h.lg]; exact hi), if_pos e.symm]
  · rw [if_neg e, if_neg (fun q => e q.symm), h.gave j hj]
    rfl
theorem at_time {c : CliV} {now : Int} (h : c.atE now = 0) : c.now ≤ now ∧ now ≤ 1000000000 := by
  unfold CliV.atE at h
  by_cases g : now < c.now ∨ 1000000000 < now
  · rw [if_pos g] at h; cases h
  · omega
theorem Alk.took {N : Int} {c : CliV} {f : Nat → Option Nat} {r : RefV} (h : Alk N c f r) {now : Int} (h0 : 0 ≤ now) {k : Nat} {s : SeedV} (hs : c.seeds[k]? = some s) (hu : s.under = true) :
    Alk N (c.tookC now k s) (gaveTo f s.frm.toNat k s.cnt.toNat) (r.tookC now k (toW s)) := by
  have ho := h.okay s (List.mem_of_getElem? hs)
  obtain ⟨q1, q2, q3⟩ := ho.rng
  have h1 := (h.time h0).put (k := k) (s := s) (u := s.idle.fresh) hs ⟨fun e => absurd (show false = true from e) Bool.false_ne_true, ho.rng, ⟨by show (0 : Int) ≤ 0; omega, by show (0 : Int) ≤ 8; omega⟩, fun _ => by show (0 : Int) ≤ 7; omega, ho.bad, ⟨by show (0 : Int) ≤ 0; omega, by show (0 : Int) ≤ _; omega⟩⟩ (fun e => absurd (show false = true from e) Bool.false_ne_true)
  have h2 := h1.taken (a := s.frm.toNat) (m := s.cnt.toNat) (k := k) (by show s.frm.toNat + s.cnt.toNat ≤ c.n; omega)
  have e1 : c.tookC now k s = ⟨c.seeds.set k s.idle.fresh, c.n, clearW c.want s.frm.toNat s.cnt.toNat, c.run, now⟩ := by
    unfold CliV.tookC CliV.cameC
    simp only [List.set_set]
    rfl
  have e2 : r.tookC now k (toW s) = ⟨r.webs.set k (toW s.idle.fresh), clearB r.wanted s.frm.toNat s.cnt.toNat, fillG r.gave s.frm.toNat k s.cnt.toNat, r.run, now⟩ := by
    unfold RefV.tookC
    rw [toW_fresh]
    have e3 : (toW s).frm = s.frm := by unfold toW; rw [hu]; rfl
    have e4 : (toW s).cnt = s.cnt := by unfold toW; rw [hu]; rfl
    rw [e3, e4]
  rw [e1, e2]
  exact h2
theorem Alk.fail {N : Int} {c : CliV} {f : Nat → Option Nat} {r : RefV} (h : Alk N c f r) {now : Int} (h0 : 0 ≤ now ∧ now ≤ 1000000000) {k : Nat} {s : SeedV} (hs : c.seeds[k]? = some s) (hu : s.under = true) (gone : Bool) :
    Alk N (c.failC now k s gone) f (r.failC now k (toW s) gone) := by
  have ho := h.okay s (List.mem_of_getElem? hs)
  have h7 := ho.f7 (.inl hu)
  have h8 := ho.f8
  have hb : 0 ≤ min (1000 * (2 : Int) ^ (s.fails + 1).toNat) 600000 := by
    have : (0 : Int) ≤ 2 ^ (s.fails + 1).toNat := Int.pow_nonneg (by omega)
    omega
  have h1 := (h.time h0.1).put (k := k) (s := s) (u := s.idle.failS now gone) hs ⟨fun e => absurd (show false = true from e) Bool.false_ne_true, ho.rng, ⟨by show 0 ≤ s.fails + 1; omega, by show s.fails + 1 ≤ 8; omega⟩, (fun e => by
      rcases e with e | e
      · exact absurd (show false = true from e) Bool.false_ne_true
      · have e2 : (gone || (s.out || decide (8 ≤ s.fails + 1))) = false := e
        simp only [Bool.or_eq_false_iff, decide_eq_false_iff_not] at e2
        show s.fails + 1 ≤ 7
        omega), ho.bad, ⟨by show 0 ≤ now + min (1000 * 2 ^ (s.fails + 1).toNat) 600000; omega, by show now + min (1000 * 2 ^ (s.fails + 1).toNat) 600000 ≤ _; omega⟩⟩ (fun e => absurd (show false = true from e) Bool.false_ne_true)
  have e2 : r.failC now k (toW s) gone = ⟨r.webs.set k (toW (s.idle.failS now gone)), r.wanted, r.gave, r.run, now⟩ := by
    unfold RefV.failC
    rw [toW_fail]
  rw [e2]
  exact h1
theorem Alk.bad {N : Int} {c : CliV} {f : Nat → Option Nat} {r : RefV} (h : Alk N c f r) {now : Int} (h0 : 0 ≤ now) {k i : Nat} {s : SeedV} (hs : c.seeds[k]? = some s) (hi : i < c.n) :
    Alk (N + 1) (c.badC now k i s) (without f i) (r.badC now k i (toW s)) := by
  have ho := h.okay s (List.mem_of_getElem? hs)
  have h := h.mono (show N ≤ N + 1 by omega)
  have hb := ho.bad
  have h1 := (h.time h0).put (k := k) (s := s) (u := s.badS) hs ⟨ho.cnt, ho.rng, ho.f8, (fun e => by
      rcases e with e | e
      · exact ho.f7 (.inl e)
      · have e2 : (s.out || decide (3 ≤ s.bad + 1)) = false := e
        simp only [Bool.or_eq_false_iff] at e2
        exact ho.f7 (.inr e2.1)), ⟨by show 0 ≤ s.bad + 1; omega, by show s.bad + 1 ≤ N + 1; omega⟩, ho.aft⟩ (fun e => ⟨e, rfl, rfl⟩)
  exact (h1.wants (i := i) hi true).ungive (i := i) hi
theorem Alk.next {N : Int} {c : CliV} {f : Nat → Option Nat} {r : RefV} (h : Alk N c f r) {now : Int} (h0 : 0 ≤ now) (hok : c.nextE now = 0) : Alk N (c.nextC now) f (r.nextC now) := by
  obtain ⟨ha0, k, b, hk, hb⟩ := next_facts hok
  obtain ⟨g1, g2, g3⟩ := h.goodE hb
  have hr1 := h.run1
  have e1 : c.nFrm = b.1 := by unfold CliV.nFrm; rw [hb]; rfl
  have e2 : c.nCnt = min (b.2 : Int) c.run := by unfold CliV.nCnt; rw [hb]; rfl
  have hki := hk
  unfold CliV.nIdx at hki
  obtain ⟨hkl, hks⟩ := List.findIdx?_eq_some_iff_getElem.1 hki
  have hs := List.getElem?_eq_getElem hkl
  obtain ⟨s, hse⟩ : ∃ s, s = c.seeds[k] := ⟨_, rfl⟩
  rw [← hse] at hs hks
  have hfr := hks.1
  unfold freeS at hfr
  simp only [Bool.and_eq_true, Bool.not_eq_true', decide_eq_true_eq] at hfr
  have ho := h.okay s (List.mem_of_getElem? hs)
  have hC : c.nextC now = ⟨c.seeds.set k (s.start c.nFrm c.nCnt), c.n, c.want, c.run, now⟩ := by
    unfold CliV.nextC
    rw [hk]
    simp only
    rw [hs]
  have hR : r.nextC now = ⟨(c.seeds.set k (s.start c.nFrm c.nCnt)).map toW, r.wanted, r.gave, r.run, now⟩ := by
    unfold RefV.nextC
    rw [h.idxE, hk]
    simp only
    rw [h.getW hs]
    simp only
    rw [List.map_set, toW_start, h.frmE, h.cntE, ← h.webs]
  rw [hC, hR]
  have hov : ∀ (j : Nat) (y : SeedV), j ≠ k → c.seeds[j]? = some y → y.under = true → c.nFrm + c.nCnt ≤ y.frm ∨ y.frm + y.cnt ≤ c.nFrm := by
    intro j y hj hy uy
    have oy := h.okay y (List.mem_of_getElem? hy)
    have cy := oy.cnt uy
    have ry := oy.rng
    by_cases q : c.nFrm + c.nCnt ≤ y.frm ∨ y.frm + y.cnt ≤ c.nFrm
    · exact q
    · exfalso
      have hx := g3 (max c.nFrm y.frm).toNat (by omega) (by omega)
      unfold CliV.free at hx
      have hfl : flyB c.seeds (max c.nFrm y.frm).toNat = true := fly_iff.2 ⟨j, y, hy, has_iff.2 ⟨uy, by omega, by omega⟩⟩
      rw [hfl] at hx
      simp at hx
  refine ⟨rfl, by show 1 ≤ (c.seeds.set k _).length; rw [List.length_set]; exact h.few, h.lw, h.lg, h.run, rfl, h.fld, h.want, h.gave, ?_, ?_, h.run1, h0⟩
  · intro x hx
    rcases List.mem_or_eq_of_mem_set hx with q | q
    · exact h.okay x q
    · rw [q]
      exact ⟨fun _ => by show 1 ≤ c.nCnt; omega, ⟨by show 0 ≤ c.nFrm; omega, by show 0 ≤ c.nCnt; omega, by show c.nFrm + c.nCnt ≤ (c.n : Int); omega⟩, ho.f8, fun _ => ho.f7 (.inr hfr.1.1), ho.bad, ho.aft⟩
  · intro i j x y hij hx hy ux uy
    have hx2 : (c.seeds.set k (s.start c.nFrm c.nCnt))[i]? = some x := hx
    have hy2 : (c.seeds.set k (s.start c.nFrm c.nCnt))[j]? = some y := hy
    rw [List.getElem?_set] at hx2 hy2
    by_cases e1 : k = i
    · rw [if_pos e1, if_pos hkl] at hx2
      cases hx2
      have e2 : ¬ k = j := by omega
      rw [if_neg e2] at hy2
      exact hov j y (fun q => e2 q.symm) hy2 uy
    · rw [if_neg e1] at hx2
      by_cases e2 : k = j
      · rw [if_pos e2, if_pos hkl] at hy2
        cases hy2
        exact (hov i x (fun q => e1 q.symm) hx2 ux).symm
      · rw [if_neg e2] at hy2
        exact h.apart i j x y hij hx2 hy2 ux uy
/-- How both begin. -/
theorem Alk.start {m : Nat} (hm : 1 ≤ m) (W : List Bool) {run : Int} (hr : 1 ≤ run) : Alk 0 ⟨List.replicate m seed0, W.length, fieldB W, run, 0⟩ (fun _ => none) ⟨List.replicate m web0, W, List.replicate W.length (-1), run, 0⟩ := by
  obtain ⟨k1, k2⟩ := fieldB_ok W
  refine ⟨by show _ = (List.replicate m seed0).map toW; rw [List.map_replicate]; rfl, by simpa using hm, rfl, by simp, rfl, rfl, k1, k2, fun i hi => ?_, fun s hs => ?_, fun i j s t hij hx hy ux uy => ?_, hr, by show (0 : Int) ≤ 0; omega⟩
  · rw [List.getElem?_replicate, if_pos hi]; rfl
  · rw [List.eq_of_mem_replicate hs]
    exact ⟨fun e => absurd (show false = true from e) Bool.false_ne_true, ⟨by decide, by decide, by show (0 : Int) + 0 ≤ _; omega⟩, ⟨by decide, by decide⟩, fun _ => by decide, ⟨by decide, by decide⟩, ⟨by decide, by decide⟩⟩
  · have := List.eq_of_mem_replicate (List.mem_of_getElem? hx)
    rw [this] at ux
    cases ux
end Go.Proofs.YtnhgichiedninaaGreatDoor

namespace Go.Proofs.YtnhgichiedninaaGreatDoor
set_option linter.unusedSimpArgs false
set_option linter.unusedVariables false
open Go.RowKit Go.Shelf

set_option maxRecDepth 100000 in
set_option maxHeartbeats 8000000 in
theorem sameRuns_any (x y : Value) (U : List (Int × Int)) (w : World) (h : RunsAt w x U) (k : RunsAt w y U) :
    Calls Tryz.prog 51 #[x, y] w fun e w' => e = .returned (.bool true) ∧ New w w' := by
  obtain ⟨a, c, rfl, hr, hc, ha⟩ := h
  obtain ⟨b, d, rfl, kr, kc, hb⟩ := k
  unfold maxLen at hc kc
  by_cases hz : 0 < U.length
  · have hne : U ≠ [] := fun e => by rw [e] at hz; simp at hz
    obtain ⟨g1, rfl, hb1, hc1⟩ := ha.resolve_left hne
    obtain ⟨g2, rfl, hb2, hc2⟩ := hb.resolve_left hne
    have HC1 := hid hc1; have HC2 := hid hc2
    clear ha hb hc1 hc2 hne
    go_enter Tryz.func51, Tryz.ntmps51
    go_wp2
    go_loopw [13] (fun i wr => ∃ (j : Nat), i = .int .i64 j ∧ j ≤ U.length ∧ New w wr) (fun i _ => U.length - (intOf i).toNat)
    case atStart => exact ⟨0, rfl, by omega, Mod.refl _ _⟩
    case round =>
      obtain ⟨j, rfl, hj, hn⟩ := hrel
      have HN := hid hn
      by_cases hlt : j < U.length
      · obtain ⟨x0, x1⟩ := HC1.out j hlt
        obtain ⟨y0, y1⟩ := HC2.out j hlt
        have x0 := hn.cellv x0; have x1 := hn.cellv x1; have y0 := hn.cellv y0; have y1 := hn.cellv y1
        clear hn
        obtain ⟨s0, hs0⟩ : ∃ s, s = U[j].1 := ⟨_, rfl⟩
        obtain ⟨s1, hs1⟩ : ∃ s, s = U[j].2 := ⟨_, rfl⟩
        rw [← hs0] at x0 y0
        rw [← hs1] at x1 y1
        clear hs0 hs1
        go_wp2
        go_region_held3 (fun w' => w'.cell? ⟨g1, j * 2, none⟩ = some (.int .i64 s0) ∧ w'.cell? ⟨g1, j * 2 + 1, none⟩ = some (.int .i64 s1) ∧ w'.cell? ⟨g2, j * 2, none⟩ = some (.int .i64 s0) ∧ w'.cell? ⟨g2, j * 2 + 1, none⟩ = some (.int .i64 s1)) (go_keep) (fail)
        go_wp2
        go_roundw
        case rel => exact ⟨j + 1, by simp, by omega, HN.out.drew⟩
        case measure => simp [intOf]; omega
      · clear hn
        go_wp2
        go_ret
        exact ⟨rfl, HN.out⟩
  · obtain rfl : U = [] := List.eq_nil_of_length_eq_zero (by omega)
    clear ha hb hz
    go_enter Tryz.func51, Tryz.ntmps51
    go_wp2
    refine wp_loop_rounds 1 ?_
    rw [rounds_succ]
    go_wp2
    go_ret
    exact ⟨rfl, Mod.refl _ _⟩
end Go.Proofs.YtnhgichiedninaaGreatDoor

namespace Go.Proofs.YtnhgichiedninaaGreatDoor
set_option linter.unusedSimpArgs false
set_option linter.unusedVariables false
open Go.RowKit Go.Shelf

def whenA (E L : Int) : Int := if E = 0 then L else 0
def whenT (E now c : Int) : Int := if E = 0 then now else c
def BothT (B MB : Nat) (ps : List Nat) (R WB DB GB k : Nat) : Prop := CliT B MB ps k ∨ RefT R WB DB GB k
theorem cWhen_one (B SB cap MB : Nat) (ps : List Nat) (c : CliV) (G : List (Value × Value)) (now : Int) (w : World) (h : CliAt w B SB cap MB ps c G) (haf : ∀ s ∈ c.seeds, 0 ≤ s.after ∧ s.after ≤ 2000000000) :
    Calls Tryz.prog 47 #[.pointer (some ⟨B, 0, none⟩), .int .i64 now] w fun e w' => e = .returned (.tuple #[.int .i64 (whenA (c.whenE now) (leastOf now c.seeds)), .int .i64 (c.whenE now)]) ∧ CliAt w' B SB cap MB ps { c with now := whenT (c.whenE now) now c.now } G ∧ Mod (CliT B MB ps) w w' := by
  refine (cWhen_any B SB cap MB ps c G now w h haf).mono ?_
  rintro e w' (⟨h1, rfl, n⟩ | ⟨h1, rfl, c1, m⟩)
  · unfold whenA whenT
    rw [if_neg h1, if_neg h1]
    exact ⟨rfl, h.new n, n.mod⟩
  · unfold whenA whenT
    rw [if_pos h1, if_pos h1, h1]
    exact ⟨rfl, c1, m⟩
theorem rWhen_one (R WB wc DB dc GB gc : Nat) (r : RefV) (now : Int) (w : World) (h : RefAt w R WB wc DB dc GB gc r) (haf : ∀ v ∈ r.webs, 0 ≤ v.til ∧ v.til ≤ 2000000000) :
    Calls Tryz.prog 48 #[.pointer (some ⟨R, 0, none⟩), .int .i64 now] w fun e w' => e = .returned (.tuple #[.int .i64 (whenA (r.whenE now) (leastW now r.webs)), .int .i64 (r.whenE now)]) ∧ RefAt w' R WB wc DB dc GB gc { r with now := whenT (r.whenE now) now r.now } ∧ Mod (RefT R WB DB GB) w w' := by
  refine (rWhen_any R WB wc DB dc GB gc r now w h haf).mono ?_
  rintro e w' (⟨h1, rfl, n⟩ | ⟨h1, rfl, c1, m⟩)
  · unfold whenA whenT
    rw [if_neg h1, if_neg h1]
    exact ⟨rfl, h.new n, n.mod⟩
  · unfold whenA whenT
    rw [if_pos h1, if_pos h1, h1]
    exact ⟨rfl, c1, m⟩
theorem when_at {c : CliV} {now : Int} (h : c.whenE now = 0) : c.atE now = 0 := by
  unfold CliV.whenE at h
  by_cases g : c.atE now ≠ 0
  · rw [if_pos g] at h; exact h
  · simpa using g
set_option maxRecDepth 100000 in
set_option maxHeartbeats 8000000 in
theorem alike_any (B SB cap MB : Nat) (ps : List Nat) (c : CliV) (G : List (Value × Value)) (f : Nat → Option Nat) (R WB wc DB dc GB gc : Nat) (r : RefV) (N now : Int) (m : Nat) (w : World) (h : CliAt w B SB cap MB ps c G) (k : RefAt w R WB wc DB dc GB gc r) (hA : Alk N c f r)
    (hf : ∀ q, RefT R WB DB GB q → q ≠ B ∧ q ≠ SB ∧ q ≠ MB ∧ q ∉ ps) (hm : m ≤ 25) :
    Calls Tryz.prog 22 #[.pointer (some ⟨B, 0, none⟩), .pointer (some ⟨R, 0, none⟩), .int .i64 now, .int .i64 m] w fun e w' => e = .returned (.bool true) ∧
      ∃ t : Int, 0 ≤ t ∧ CliAt w' B SB cap MB ps { c with now := t } G ∧ RefAt w' R WB wc DB dc GB gc { r with now := t } ∧ Mod (BothT B MB ps R WB DB GB) w w' := by
  have hCR : ∀ q, CliT B MB ps q → ¬ RefT R WB DB GB q := fun q a b => by
    obtain ⟨x1, x2, x3, x4⟩ := hf q b
    rcases a with a | a | a
    · exact x1 a
    · exact x3 a
    · exact x4 a
  have hWC := hid (cWhen_one B SB cap MB ps c G now w h (fun s hs => by have := (hA.okay s hs).aft; omega))
  have hWR := hid (fun W (n : Mod (CliT B MB ps) w W) => rWhen_one R WB wc DB dc GB gc r now W (k.mod n (fun q a b => hCR q b a)) (fun v hv => by
    rw [hA.webs] at hv
    obtain ⟨s, hs, rfl⟩ := List.mem_map.1 hv
    have := (hA.okay s hs).aft
    show 0 ≤ s.after ∧ s.after ≤ 2000000000
    omega))
  have hk2 := k
  obtain ⟨E, hE⟩ : ∃ E, E = c.whenE now := ⟨_, rfl⟩
  obtain ⟨L, hL⟩ : ∃ L, L = leastOf now c.seeds := ⟨_, rfl⟩
  obtain ⟨T, hT⟩ : ∃ T, T = whenT E now c.now := ⟨_, rfl⟩
  obtain ⟨AV, hAV⟩ : ∃ AV, AV = whenA E L := ⟨_, rfl⟩
  simp only [hA.whenEE, hA.leastE, hA.now] at hWR
  rw [← hE, ← hL, ← hT, ← hAV] at hWC hWR
  have hT0 : 0 ≤ T := by
    rw [hT]
    unfold whenT
    have h0 := hA.now0
    by_cases g : E = 0
    · rw [if_pos g]
      have := at_time (when_at (c := c) (now := now) (by rw [← hE]; exact g))
      omega
    · rw [if_neg g]; exact h0
  have HT0 := hid hT0
  have HA := hid (hA.time hT0)
  have HF := hid hf; have HCR := hid hCR
  obtain ⟨c2, hc2⟩ : ∃ c2, c2 = ({ c with now := T } : CliV) := ⟨_, rfl⟩
  obtain ⟨r2, hr2⟩ : ∃ r2, r2 = ({ r with now := T } : RefV) := ⟨_, rfl⟩
  rw [← hc2] at hWC HA
  rw [← hr2] at hWR HA
  have HC2 := hid hc2; have HR2 := hid hr2
  have hfw : 0 < r2.wanted.length ∧ r2.wanted.length ≤ 4096 := by have := hk2.few.2.1; rw [hr2]; show 0 < r.wanted.length ∧ r.wanted.length ≤ 4096; omega
  clear hE hL hT hAV h k hk2 hA hf hCR hT0 hc2 hr2
  go_enter Tryz.func22, Tryz.ntmps22
  go_wp2_with fail
  refine hWC.out.mono ?_
  rintro e w1 ⟨rfl, C1, M1⟩
  have HC1 := hid C1; have HM1 := hid M1
  clear C1 M1 hWC
  go_wp2_with fail
  refine (hWR.out _ HM1.out).mono ?_
  rintro e w2 ⟨rfl, R2, M2⟩
  have HR2' := hid R2
  have HC2' := hid (HC1.out.other M2 HF.out)
  have HM2 : Hid (Mod (BothT B MB ps R WB DB GB) w w2) := hid ((HM1.out.mono (fun q _ e => .inl e)).trans (M2.mono (fun q _ e => .inr e)))
  clear R2 M2 hWR HC1 HM1
  have HWA := hid (cWanted_any B SB cap MB ps c2 G w2 HC2'.out)
  have HWB := hid (fun W (n : New w2 W) => rWanted_any R WB wc DB dc GB gc r2 W (HR2'.out.new n))
  have hwe := HA.out.wantedE
  obtain ⟨WT, hWT⟩ : ∃ WT, WT = c2.wantUpto c2.n := ⟨_, rfl⟩
  rw [← hWT] at HWA hwe
  have HWE := hid hwe
  have hlw : (r2.wantTo r2.wanted.length).length = r2.wanted.length := by unfold RefV.wantTo; rw [List.length_map, List.length_range]
  obtain ⟨XS, hXS⟩ : ∃ XS, XS = r2.wantTo r2.wanted.length := ⟨_, rfl⟩
  rw [← hXS] at HWB HWE hlw
  have hxl : 0 < XS.length ∧ XS.length ≤ 4096 := by omega
  clear hWT hXS hwe hlw
  go_wp2_with fail
  refine HWA.out.mono ?_
  rintro e w3 ⟨rfl, n3⟩
  have N3 := hid n3
  clear n3
  go_wp2_with fail
  refine (HWB.out _ N3.out).mono ?_
  rintro e w4 ⟨a4, c4, rfl, b4, n4⟩
  have N4 := hid (N3.out.trans n4)
  have HFI := hid (field_any a4 c4 XS w4 b4 hxl)
  rw [HWE.out] at HFI
  clear n4 b4
  go_wp2_with fail
  refine HFI.out.mono ?_
  rintro e w5 ⟨rfl, n5⟩
  have N5 := hid (N4.out.trans n5)
  clear n5
  have HUC := hid (cunder_any B SB cap MB ps c2 G w5 (HC2'.out.new N5.out))
  have HUR := hid (fun W (n : New w5 W) => rUnder_any R WB wc DB dc GB gc r2 W (HR2'.out.new (N5.out.trans n)))
  go_wp2_with fail
  refine HUC.out.mono ?_
  rintro e w6 ⟨v6, U, rfl, u1, u2, u3, n6⟩
  have N6 := hid n6; have U1 := hid u1; have U2 := hid u2; have U3 := hid u3
  clear n6 u1 u2 u3
  go_wp2_with fail
  refine (HUR.out _ N6.out).mono ?_
  rintro e w7 ⟨v7, V, rfl, p1, p2, p3, n7⟩
  have hUV := HA.out.underE U1.out U2.out p1 p2
  subst hUV
  have N7 := hid (N5.out.trans (N6.out.trans n7))
  have HSR := hid (sameRuns_any v6 v7 U w7 (U3.out.new n7) p3)
  clear n7 p1 p2 p3 U1 U2 U3 N6
  go_wp2_with fail
  refine HSR.out.mono ?_
  rintro e w8 ⟨rfl, n8⟩
  have N8 := hid (N7.out.trans n8)
  have C8 := hid (HC2'.out.new N8.out)
  have R8 := hid (HR2'.out.new N8.out)
  have M8 : Hid (Mod (BothT B MB ps R WB DB GB) w w8) := hid (HM2.out.trans (N8.out.mono (fun q _ e => False.elim e)))
  clear n8 HC2' HR2' HM2 N8 N7 N5 N4 N3 HWA HWB HWE HFI HUC HUR HSR
  go_wp2_with fail
  go_loopw [13] (fun x wr => ∃ i : Int, x = .int .i64 i ∧ -1 ≤ i ∧ i ≤ m + 1 ∧ wr = w8) (fun x _ => (m + 1 - intOf x).toNat)
  case atStart => exact ⟨-1, rfl, by omega, by omega, rfl⟩
  case round =>
    obtain ⟨i, rfl, hi1, hi2, rfl⟩ := hrel
    by_cases hlt : i ≤ (m : Int)
    · have HO1 := hid (cOut_any B SB cap MB ps c2 G i wr C8.out)
      have HO2 := hid (rOut_any R WB wc DB dc GB gc r2 i wr R8.out)
      have HW1 := hid (cWait_any B SB cap MB ps c2 G i wr C8.out)
      have HW2 := hid (rWait_any R WB wc DB dc GB gc r2 i wr R8.out)
      rw [HA.out.outE] at HO2
      rw [HA.out.waitE] at HW2
      obtain ⟨o1, ho1⟩ : ∃ o, o = (outR c2.seeds i).1 := ⟨_, rfl⟩
      obtain ⟨o2, ho2⟩ : ∃ o, o = (outR c2.seeds i).2 := ⟨_, rfl⟩
      obtain ⟨t1, ht1⟩ : ∃ o, o = (waitR c2.seeds i).1 := ⟨_, rfl⟩
      obtain ⟨t2, ht2⟩ : ∃ o, o = (waitR c2.seeds i).2 := ⟨_, rfl⟩
      rw [← ho1, ← ho2] at HO1 HO2
      rw [← ht1, ← ht2] at HW1 HW2
      clear ho1 ho2 ht1 ht2
      go_wp2_with fail
      refine HO1.out.mono ?_
      rintro e x1 ⟨rfl, rfl⟩
      go_wp2_with fail
      refine HO2.out.mono ?_
      rintro e x2 ⟨rfl, rfl⟩
      go_wp2_with fail
      refine HW1.out.mono ?_
      rintro e x3 ⟨rfl, rfl⟩
      go_wp2_with fail
      refine HW2.out.mono ?_
      rintro e x4 ⟨rfl, rfl⟩
      go_wp2
      exact ⟨⟨i + 1, by simp, by omega, by omega, by first | rfl | trivial⟩, by simp [intOf]; omega⟩
    · go_wp2
      go_ret
      exact ⟨by first | rfl | trivial, T, HT0.out, by rw [← HC2.out]; exact C8.out, by rw [← HR2.out]; exact R8.out, M8.out⟩
end Go.Proofs.YtnhgichiedninaaGreatDoor
