/-
  Several texts in one, in their build order. The walks of most and longest (package web): the run that is got next. Conditions: the client lies as told.
-/
import Derived.Test.YtnhgichiedninaaGreatDoorM7
namespace Go.Proofs.YtnhgichiedninaaGreatDoor
set_option linter.unusedSimpArgs false
set_option linter.unusedVariables false
open Go.RowKit Go.Shelf
attribute [local go_sem] Oper.semAt_some

set_option maxRecDepth 100000 in
set_option maxHeartbeats 1000000 in
theorem ccounted_any (B SB cap MB : Nat) (ps : List Nat) (c : CliV) (G : List (Value × Value)) (Y : Nat) (a b : Int) (w : World) (h : CliAt w B SB cap MB ps c G) (hy : w.cell? ⟨Y, 0, none⟩ = some (.pointer (some ⟨B, 0, none⟩))) :
    Calls Tryz.prog 76 #[.agg #[.int .i64 a, .int .i64 b], .pointer (some ⟨Y, 0, none⟩)] w fun e w' => e = .returned (.int .i64 (min b c.run)) ∧ New w w' := by
  have c3 := h.row.cellv 3 rfl; have cl := h.row.lt
  have yl := World.block_lt_of_cell? _ _ hy
  have y0 := hy
  clear h hy
  go_enter Tryz.func76, Tryz.ntmps76
  go_wp2
  go_quiet (fail)
  go_wp2
  all_goals
    go_ret
    exact ⟨ret_int (by omega), Mod.drewN ((Mod.refl _ _).alloc _) _⟩
/-- The best one so far, and another. -/
def stepB (m : Int) (b : Option (Nat × Nat)) (r : Nat × Nat) : Option (Nat × Nat) := match b with
  | none => some r
  | some x => if min (x.2 : Int) m < min (r.2 : Int) m then some r else some x
theorem best_app (m : Int) (r : Nat × Nat) : ∀ (l : List (Nat × Nat)) (b : Option (Nat × Nat)), bestG m b (l ++ [r]) = stepB m (bestG m b l) r
  | [], none => rfl
  | [], some x => rfl
  | y :: l, none => by
    show bestG m (some y) (l ++ [r]) = stepB m (bestG m (some y) l) r
    exact best_app m r l (some y)
  | y :: l, some x => by
    show bestG m _ (l ++ [r]) = stepB m (bestG m _ l) r
    exact best_app m r l _
/-- What lies about the loop of most. -/
structure MEnv (w : World) (Y : Nat) (lo : Obj) (b : Option (Nat × Nat)) (W : World) : Prop where
  f0 : Blk W w.heap.size #[.func (.func 76) #[] #[.pointer (some ⟨Y, 0, none⟩)]] 131
  r1 : Blk W (w.heap.size + 1) #[.int .i64 0, .int .i64 0] 34
  o2 : Blk W (w.heap.size + 2) #[.int .i64 (b.getD (0, 0)).1, .int .i64 (b.getD (0, 0)).2] 34
  s3 : Blk W (w.heap.size + 3) #[.bool b.isSome] 4
  hD : W.heap[w.heap.size + 4]? = some (.deferred (some []))
  hL : W.heap[w.heap.size + 5]? = some lo
  new' : New w W
theorem MEnv.step {w : World} {Y : Nat} {lo : Obj} {b : Option (Nat × Nat)} {W W' : World} (h : MEnv w Y lo b W) (hm : New W W') : MEnv w Y lo b W' := by
  obtain ⟨h1, h2, h3, h4, h5, h6, h7⟩ := h
  exact ⟨New.blk hm h1, New.blk hm h2, New.blk hm h3, New.blk hm h4, (hm.block _ (Array.getElem?_eq_some_iff.1 h5).1 (fun q => q)).trans h5, (hm.block _ (Array.getElem?_eq_some_iff.1 h6).1 (fun q => q)).trans h6, Mod.trans h7 hm⟩
theorem MEnv.put {w : World} {Y : Nat} {lo lo' : Obj} {b : Option (Nat × Nat)} {W : World} (h : MEnv w Y lo b W) : MEnv w Y lo' b (W.putObj (w.heap.size + 5) lo') := by
  obtain ⟨h1, h2, h3, h4, h5, h6, h7⟩ := h
  exact ⟨Blk.putObj (by omega) h1, Blk.putObj (by omega) h2, Blk.putObj (by omega) h3, Blk.putObj (by omega) h4, obz_put (by omega) h5, World.putObj_heap_same (Array.getElem?_eq_some_iff.1 h6).1, Mod.putObj h7 _ _ (.inr (by omega))⟩
theorem MEnv.wr {w : World} {Y : Nat} {lo : Obj} {b : Option (Nat × Nat)} {W : World} (h : MEnv w Y lo b W) (r : Nat × Nat) :
    MEnv w Y lo (some r) (((W.setCell ⟨w.heap.size + 2, 0, none⟩ (.int .i64 r.1)).setCell ⟨w.heap.size + 2, 1, none⟩ (.int .i64 r.2)).setCell ⟨w.heap.size + 3, 0, none⟩ (.bool true)) := by
  obtain ⟨h1, h2, h3, h4, h5, h6, h7⟩ := h
  refine ⟨?_, ?_, ?_, ?_, ?_, ?_, ?_⟩
  · exact Blk.other (by simp) (Blk.other (by simp) (Blk.other (by simp) h1))
  · exact Blk.other (by simp) (Blk.other (by simp) (Blk.other (by simp) h2))
  · exact Blk.other (by simp) (((h3.set 0 _).set 1 _).row (by simp))
  · exact ((Blk.other (by simp) (Blk.other (by simp) h4)).set 0 _).row (by simp)
  · exact obz_set (by simp) (obz_set (by simp) (obz_set (by simp) h5))
  · exact obz_set (by simp) (obz_set (by simp) (obz_set (by simp) h6))
  · exact Mod.set (Mod.set (Mod.set h7 _ _ (.inr (by simp))) _ _ (.inr (by simp))) _ _ (.inr (by simp))
theorem name_worldZ {p : World → Prop} {w : World} (h : ∀ W, W = w → p W) : p w := h w rfl
set_option maxRecDepth 100000 in
set_option maxHeartbeats 8000000 in
theorem cmost_any (B SB cap MB : Nat) (ps : List Nat) (c : CliV) (G : List (Value × Value)) (X Y : Nat) (w : World) (h : CliAt w B SB cap MB ps c G) (hx : Blk w X #[.pointer (some ⟨B, 0, none⟩)] 27) (hy : Blk w Y #[.pointer (some ⟨B, 0, none⟩)] 27) :
    Calls Tryz.prog 77 #[.func (.func 106) #[] #[.pointer (some ⟨X, 0, none⟩)], .func (.func 76) #[] #[.pointer (some ⟨Y, 0, none⟩)]] w fun e w' =>
      e = .returned (.tuple #[.agg #[.int .i64 ((bestG c.run none (runsF c.free c.n 0)).getD (0, 0)).1, .int .i64 ((bestG c.run none (runsF c.free c.n 0)).getD (0, 0)).2], .bool (bestG c.run none (runsF c.free c.n 0)).isSome]) ∧ New w w' := by
  have HC := hid h; have HX := hid hx; have HY := hid hy
  have HIT := hid (fun lp m hm Inv q1 q2 q3 W q4 => cruns_iter B SB cap MB ps c G X lp m hm Inv q1 q2 q3 W q4)
  have HCT := hid (fun (r : Nat × Nat) W (q : New w W) => ccounted_any B SB cap MB ps c G Y r.1 r.2 W (h.new q) ((New.blk q hy).cellv 0 rfl))
  have HGD := hid (fun r (q : r ∈ runsF c.free c.n 0) => (runs_good c.free c.n (c.n - 0) 0 (Nat.le_refl _) r q).2.2.1)
  have hn1 := h.n1
  clear h hx hy
  refine (callsIn_wide (n := 9)).1 ?_
  refine callsIn_of_wp_marks Tryz.func77 rfl trivial ?_ rfl
  simp only [Tryz.ntmps77, List.size_toArray, List.length_cons, List.length_nil, Nat.reduceAdd, Nat.reduceSub, Array.replicate_succ, Array.replicate_zero, List.push_toArray, List.append_toArray, List.nil_append, List.cons_append]
  gi_wp2
  refine name_worldZ (p := fun W => Code.wpIn _ _ _ _ _ _ W) (fun W0 hW0 => ?_)
  have hs0 : W0.heap.size = w.heap.size + 4 := by rw [hW0]; simp
  have k0 : Blk W0 w.heap.size #[.func (.func 76) #[] #[.pointer (some ⟨Y, 0, none⟩)]] 131 := by rw [hW0]; exact (((Blk.new _ _ _).alloc _).alloc _).alloc _
  have k1 : Blk W0 (w.heap.size + 1) #[.int .i64 0, .int .i64 0] 34 := by rw [hW0]; exact ((Blk.newAt (by simp)).alloc _).alloc _
  have k2 : Blk W0 (w.heap.size + 2) #[.int .i64 0, .int .i64 0] 34 := by rw [hW0]; exact (Blk.newAt (by simp)).alloc _
  have k3 : Blk W0 (w.heap.size + 3) #[.bool false] 4 := by rw [hW0]; exact Blk.newAt (by simp)
  have kn : New w W0 := by rw [hW0]; exact ((((Mod.refl _ _).alloc _).alloc _).alloc _).alloc _
  clear hW0
  refine wpIn_range rfl (by omega) (gf := 106) (lb := #[.pointer (some ⟨X, 0, none⟩)]) rfl trivial (enters_of Tryz.func106 (by kernel_rfl) rfl) ?_
  intro fn _ rec hrec
  have hst : New W0 ((W0.alloc (.deferred (some []))).alloc (.loop (rec .ready none))) := ((Mod.refl _ _).alloc _).alloc _
  have hl0 : ((W0.alloc (.deferred (some []))).alloc (.loop (rec .ready none))).heap[W0.heap.size + 1]? = some (.loop (rec .ready none)) := by
    have := World.alloc_heap_new (w := W0.alloc (.deferred (some []))) (o := .loop (rec .ready none))
    rwa [World.size_alloc] at this
  have hd0 : ((W0.alloc (.deferred (some []))).alloc (.loop (rec .ready none))).heap[W0.heap.size]? = some (.deferred (some [])) := (Below.heap_alloc _ _ _ (by simp)).trans (World.alloc_heap_new W0 _)
  rw [hs0] at hrec hl0 hd0 ⊢
  have henv : MEnv w Y (.loop (rec .ready none)) none ((W0.alloc (.deferred (some []))).alloc (.loop (rec .ready none))) :=
    ⟨New.blk hst k0, New.blk hst k1, New.blk hst k2, New.blk hst k3, hd0, hl0, Mod.trans kn hst⟩
  generalize (W0.alloc (.deferred (some []))).alloc (.loop (rec .ready none)) = W1 at *
  clear hs0 k0 k1 k2 k3 kn hst hl0 hd0
  refine (HIT.out (w.heap.size + 5) 8 (by omega) (fun T W => MEnv w Y (.loop (rec .ready none)) (bestG c.run none T) W) ?hI ?hN ?hY _ henv).mono ?fin
  case hI => exact fun T W e => ⟨HC.out.new e.new', New.blk e.new' HX.out⟩
  case hN => exact fun T W W' e hn => e.step hn
  case fin =>
    rintro e W ⟨hv, hA⟩
    refine ⟨hv, hA.hD, .inl ⟨hA.hL, ?_⟩⟩
    refine name_worldZ (p := fun W => Exit.inBlock _ _ _ _ W) (fun W5 hW5 => ?_)
    have h5 : MEnv w Y (.loop (rec .exhausted none)) (bestG c.run none (runsF c.free c.n 0)) W5 := by rw [hW5]; exact hA.put
    have HA5 := hid h5
    obtain ⟨b, hb⟩ : ∃ b, b = bestG c.run none (runsF c.free c.n 0) := ⟨_, rfl⟩
    rw [← hb] at h5 HA5
    have HBE := hid hb
    have o0 : W5.cell? ⟨w.heap.size + 2, 0, none⟩ = some (.int .i64 (b.getD (0, 0)).1) := h5.o2.cellv 0 rfl
    have o1 : W5.cell? ⟨w.heap.size + 2, 1, none⟩ = some (.int .i64 (b.getD (0, 0)).2) := h5.o2.cellv 1 rfl
    have q0 : W5.cell? ⟨w.heap.size + 3, 0, none⟩ = some (.bool b.isSome) := h5.s3.cellv 0 rfl
    have rl := h5.r1.lt; have rf := h5.r1.frz
    have r0 : W5.cell? ⟨w.heap.size + 1, 0, none⟩ = some (.int .i64 0) := h5.r1.cellv 0 rfl
    have r1 : W5.cell? ⟨w.heap.size + 1, 1, none⟩ = some (.int .i64 0) := h5.r1.cellv 1 rfl
    have rf0 := rf 0; have rf1 := rf 1
    clear hA hW5 h5 hv henv hrec hb rf
    gi_wp2_with fail
    gi_region
    all_goals gi_wp2
    refine name_worldZ (p := fun W => bodyPostM _ _ _ _ _ _ _ W) (fun W6 hW6 => ?_)
    have K6 : Blk W6 (w.heap.size + 1) #[.int .i64 (b.getD (0, 0)).1, .int .i64 (b.getD (0, 0)).2] 34 := by
      rw [hW6]
      exact ((((HA5.out.r1.drew).set 0 _).set 1 _).row (by simp))
    have D6 : W6.heap[w.heap.size + 4]? = some (.deferred (some [])) := by
      rw [hW6]
      exact obz_set (by simp) (obz_set (by simp) HA5.out.hD)
    have N6 : New w W6 := by
      rw [hW6]
      exact Mod.set (Mod.set HA5.out.new'.drew _ _ (.inr (by simp))) _ _ (.inr (by simp))
    clear hW6
    refine ⟨by simp, .inl ⟨_, _, rfl, run_takeDeferred D6, ?_⟩⟩
    have c0 := (Blk.putObj (r := w.heap.size + 4) (o := .deferred none) (show w.heap.size + 1 ≠ w.heap.size + 4 by omega) K6).cellv 0 rfl
    have c1 := (Blk.putObj (r := w.heap.size + 4) (o := .deferred none) (show w.heap.size + 1 ≠ w.heap.size + 4 by omega) K6).cellv 1 rfl
    refine ⟨.tuple #[.agg #[.int .i64 (b.getD (0, 0)).1, .int .i64 (b.getD (0, 0)).2], .bool b.isSome], ?_, by rw [HBE.out], ?_⟩
    · simp [results, Tryz.results77, go_sem, c0, c1]
    · exact Mod.putObj N6 _ _ (.inr (by omega))
  case hY =>
    rintro T ⟨i, j⟩ W hE ⟨rest, hpre⟩
    have hg := HGD.out (i, j) (by rw [← hpre]; simp)
    simp only at hg
    rw [best_app]
    obtain ⟨b, hb⟩ : ∃ b, b = bestG c.run none T := ⟨_, rfl⟩
    rw [← hb] at hE ⊢
    clear hb hpre
    refine yieldAt_round hrec hE.hL rfl trivial ?_
    have HE := hid hE
    have HLW : Hid (w.heap.size + 5 < W.heap.size) := hid (Array.getElem?_eq_some_iff.1 hE.hL).1
    clear hE hrec henv
    gi_wp2
    refine ⟨obz_alloc HE.out.hL, ?_⟩
    have hLW := HLW.out
    refine name_worldZ (p := fun W => Code.wpIn _ _ _ _ _ _ W) (fun W3 hW3 => ?_)
    have hs3 : W3.heap.size = W.heap.size + 1 := by rw [hW3]; simp
    have hx3 : Blk W3 W.heap.size #[.int .i64 i, .int .i64 j] 34 := by rw [hW3]; exact Blk.putObj (by omega) (Blk.new _ _ _)
    have hE3 : MEnv w Y (.loop (rec .busy none)) b W3 := by rw [hW3]; exact (HE.out.step ((Mod.refl _ _).alloc _)).put
    clear hW3
    have HE3 := hid hE3; have HX3 := hid hx3
    have x0 : W3.cell? ⟨W.heap.size, 0, none⟩ = some (.int .i64 i) := hx3.cellv 0 rfl
    have x1 : W3.cell? ⟨W.heap.size, 1, none⟩ = some (.int .i64 j) := hx3.cellv 1 rfl
    have xl := hx3.lt
    have o0 : W3.cell? ⟨w.heap.size + 2, 0, none⟩ = some (.int .i64 (b.getD (0, 0)).1) := hE3.o2.cellv 0 rfl
    have o1 : W3.cell? ⟨w.heap.size + 2, 1, none⟩ = some (.int .i64 (b.getD (0, 0)).2) := hE3.o2.cellv 1 rfl
    have s0 : W3.cell? ⟨w.heap.size + 3, 0, none⟩ = some (.bool b.isSome) := hE3.s3.cellv 0 rfl
    have f0 : W3.cell? ⟨w.heap.size, 0, none⟩ = some (.func (.func 76) #[] #[.pointer (some ⟨Y, 0, none⟩)]) := hE3.f0.cellv 0 rfl
    have ol := hE3.o2.lt; have of0 := hE3.o2.frz 0; have of1 := hE3.o2.frz 1; have sf := hE3.s3.frz 0
    have N3 := hid hE3.new'
    clear hx3 hE3
    cases b with
    | none =>
      gi_wp2_with fail
      refine wp_region_round (fun w' => w'.cell? ⟨w.heap.size + 3, 0, none⟩ = some (.bool false)) (by kernel_rfl) (noDefer_spec (by kernel_rfl)) (by rintro ⟨a, w, q⟩; exact q) s0 (fun hHeld => ?_)
      refine wpAnyH_take (i := 0) (v := ?_) (by simp only [List.getElem?_toArray, List.getElem?_cons_succ, List.getElem?_cons_zero]; rfl) (by kernel_rfl) (by kernel_rfl) (by kernel_rfl) (by intro _ _ _ h; exact h) (Or.inl ⟨by rfl, ?_⟩) (by assumption) ?_
      rotate_left
      · intro w hSw
        (try dsimp only at hSw)
        first | (go_simp; done) | (go_simp; with_reducible rfl) | with_reducible rfl
      simp only [Act.put, List.setIfInBounds_toArray, List.set_cons_zero, List.set_cons_succ]
      refine wpAnyH_take (i := 1) (v := ?_) (by simp only [List.getElem?_toArray, List.getElem?_cons_succ, List.getElem?_cons_zero]; rfl) (by kernel_rfl) (by kernel_rfl) (by kernel_rfl) (by intro _ _ _ h; exact h) (Or.inl ⟨by rfl, ?_⟩) (by assumption) ?_
      rotate_left
      · intro w hSw
        (try dsimp only at hSw)
        first | (go_simp; done) | (go_simp; with_reducible rfl) | with_reducible rfl
      simp only [Act.put, List.setIfInBounds_toArray, List.set_cons_zero, List.set_cons_succ]
      refine wpAnyH_take (i := 2) (v := ?_) (by simp only [List.getElem?_toArray, List.getElem?_cons_succ, List.getElem?_cons_zero]; rfl) (by kernel_rfl) (by kernel_rfl) (by kernel_rfl) (by intro _ _ _ h; exact h) (Or.inl ⟨by rfl, ?_⟩) (by assumption) ?_
      rotate_left
      · intro w hSw
        (try dsimp only at hSw)
        first | (go_simp; done) | (go_simp; with_reducible rfl) | with_reducible rfl
      simp only [Act.put, List.setIfInBounds_toArray, List.set_cons_zero, List.set_cons_succ]
      refine wpAnyH_take (i := 3) (v := undef) (by simp only [List.getElem?_toArray, List.getElem?_cons_succ, List.getElem?_cons_zero]; rfl) (by kernel_rfl) (by kernel_rfl) (by kernel_rfl) (by intro _ _ _ h; exact h) (Or.inr ⟨by kernel_rfl, rfl⟩) (by assumption) ?_
      simp only [Act.put, List.setIfInBounds_toArray, List.set_cons_zero, List.set_cons_succ]
      refine wpAnyH_take (i := 4) (v := undef) (by simp only [List.getElem?_toArray, List.getElem?_cons_succ, List.getElem?_cons_zero]; rfl) (by kernel_rfl) (by kernel_rfl) (by kernel_rfl) (by intro _ _ _ h; exact h) (Or.inr ⟨by kernel_rfl, rfl⟩) (by assumption) ?_
      simp only [Act.put, List.setIfInBounds_toArray, List.set_cons_zero, List.set_cons_succ]
      refine wpAnyH_take (i := 5) (v := undef) (by simp only [List.getElem?_toArray, List.getElem?_cons_succ, List.getElem?_cons_zero]; rfl) (by kernel_rfl) (by kernel_rfl) (by kernel_rfl) (by intro _ _ _ h; exact h) (Or.inr ⟨by kernel_rfl, rfl⟩) (by assumption) ?_
      simp only [Act.put, List.setIfInBounds_toArray, List.set_cons_zero, List.set_cons_succ]
      refine wpAnyH_take (i := 6) (v := undef) (by simp only [List.getElem?_toArray, List.getElem?_cons_succ, List.getElem?_cons_zero]; rfl) (by kernel_rfl) (by kernel_rfl) (by kernel_rfl) (by intro _ _ _ h; exact h) (Or.inr ⟨by kernel_rfl, rfl⟩) (by assumption) ?_
      simp only [Act.put, List.setIfInBounds_toArray, List.set_cons_zero, List.set_cons_succ]
      refine wpAnyH_take (i := 7) (v := undef) (by simp only [List.getElem?_toArray, List.getElem?_cons_succ, List.getElem?_cons_zero]; rfl) (by kernel_rfl) (by kernel_rfl) (by kernel_rfl) (by intro _ _ _ h; exact h) (Or.inr ⟨by kernel_rfl, rfl⟩) (by assumption) ?_
      simp only [Act.put, List.setIfInBounds_toArray, List.set_cons_zero, List.set_cons_succ]
      refine wpAnyH_take (i := 8) (v := undef) (by simp only [List.getElem?_toArray, List.getElem?_cons_succ, List.getElem?_cons_zero]; rfl) (by kernel_rfl) (by kernel_rfl) (by kernel_rfl) (by intro _ _ _ h; exact h) (Or.inr ⟨by kernel_rfl, rfl⟩) (by assumption) ?_
      simp only [Act.put, List.setIfInBounds_toArray, List.set_cons_zero, List.set_cons_succ]
      refine wpAnyH_take (i := 9) (v := undef) (by simp only [List.getElem?_toArray, List.getElem?_cons_succ, List.getElem?_cons_zero]; rfl) (by kernel_rfl) (by kernel_rfl) (by kernel_rfl) (by intro _ _ _ h; exact h) (Or.inr ⟨by kernel_rfl, rfl⟩) (by assumption) ?_
      simp only [Act.put, List.setIfInBounds_toArray, List.set_cons_zero, List.set_cons_succ]
      refine wpAnyH_take (i := 10) (v := ?_) (by simp only [List.getElem?_toArray, List.getElem?_cons_succ, List.getElem?_cons_zero]; rfl) (by kernel_rfl) (by kernel_rfl) (by kernel_rfl) (by intro _ _ _ h; exact h) (Or.inl ⟨by rfl, ?_⟩) (by assumption) ?_
      rotate_left
      · intro w hSw
        (try dsimp only at hSw)
        first | (go_simp; done) | (go_simp; with_reducible rfl) | with_reducible rfl
      simp only [Act.put, List.setIfInBounds_toArray, List.set_cons_zero, List.set_cons_succ]
      refine wpAnyH_done (by kernel_rfl) ?_ _
      gi_wp2
      have h9 := ((HE3.out.step ((Mod.refl _ _).drew)).wr (i, j))
      exact ⟨h9.hL, rfl, h9.put⟩
    | some b =>
      obtain ⟨b1, b2⟩ := b
      have o0 : W3.cell? ⟨w.heap.size + 2, 0, none⟩ = some (.int .i64 b1) := o0
      have o1 : W3.cell? ⟨w.heap.size + 2, 1, none⟩ = some (.int .i64 b2) := o1
      have s0 : W3.cell? ⟨w.heap.size + 3, 0, none⟩ = some (.bool true) := s0
      have HCI := hid (fun W (q : New w W) => HCT.out (i, j) W q)
      have HCB := hid (fun W (q : New w W) => HCT.out (b1, b2) W q)
      simp only at HCI HCB
      gi_wp2_with fail
      refine wp_region_round (fun w' => w'.cell? ⟨w.heap.size, 0, none⟩ = some (.func (.func 76) #[] #[.pointer (some ⟨Y, 0, none⟩)]) ∧ w'.cell? ⟨w.heap.size + 3, 0, none⟩ = some (.bool true) ∧ w'.cell? ⟨w.heap.size + 2, 0, none⟩ = some (.int .i64 b1) ∧ w'.cell? ⟨w.heap.size + 2, 1, none⟩ = some (.int .i64 b2) ∧ w'.cell? ⟨W.heap.size, 0, none⟩ = some (.int .i64 i) ∧ w'.cell? ⟨W.heap.size, 1, none⟩ = some (.int .i64 j)) (by kernel_rfl) (noDefer_spec (by kernel_rfl)) (by rintro ⟨a, w, q⟩; exact q) ⟨f0, s0, o0, o1, x0, x1⟩ (fun hHeld => ?_)
      refine wpAnyH_take (i := 0) (v := ?_) (by simp only [List.getElem?_toArray, List.getElem?_cons_succ, List.getElem?_cons_zero]; rfl) (by kernel_rfl) (by kernel_rfl) (by kernel_rfl) (by intro _ _ _ h; exact h) (Or.inl ⟨by rfl, ?_⟩) (by assumption) ?_
      rotate_left
      · intro w hSw
        (try dsimp only at hSw)
        first | (go_simp; done) | (go_simp; with_reducible rfl) | with_reducible rfl
      simp only [Act.put, List.setIfInBounds_toArray, List.set_cons_zero, List.set_cons_succ]
      refine wpAnyH_take (i := 1) (v := ?_) (by simp only [List.getElem?_toArray, List.getElem?_cons_succ, List.getElem?_cons_zero]; rfl) (by kernel_rfl) (by kernel_rfl) (by kernel_rfl) (by intro _ _ _ h; exact h) (Or.inl ⟨by rfl, ?_⟩) (by assumption) ?_
      rotate_left
      · intro w hSw
        (try dsimp only at hSw)
        first | (go_simp; done) | (go_simp; with_reducible rfl) | with_reducible rfl
      simp only [Act.put, List.setIfInBounds_toArray, List.set_cons_zero, List.set_cons_succ]
      refine wpAnyH_take (i := 2) (v := ?_) (by simp only [List.getElem?_toArray, List.getElem?_cons_succ, List.getElem?_cons_zero]; rfl) (by kernel_rfl) (by kernel_rfl) (by kernel_rfl) (by intro _ _ _ h; exact h) (Or.inl ⟨by rfl, ?_⟩) (by assumption) ?_
      rotate_left
      · intro w hSw
        (try dsimp only at hSw)
        first | (go_simp; done) | (go_simp; with_reducible rfl) | with_reducible rfl
      simp only [Act.put, List.setIfInBounds_toArray, List.set_cons_zero, List.set_cons_succ]
      refine wpAnyH_take (i := 3) (v := ?_) (by simp only [List.getElem?_toArray, List.getElem?_cons_succ, List.getElem?_cons_zero]; rfl) (by kernel_rfl) (by kernel_rfl) (by kernel_rfl) (by intro _ _ _ h; exact h) (Or.inl ⟨by rfl, ?_⟩) (by assumption) ?_
      rotate_left
      · intro w hSw
        (try dsimp only at hSw)
        first | (go_simp; done) | (go_simp; with_reducible rfl) | with_reducible rfl
      simp only [Act.put, List.setIfInBounds_toArray, List.set_cons_zero, List.set_cons_succ]
      refine wpAnyH_take (i := 4) (v := ?_) (by simp only [List.getElem?_toArray, List.getElem?_cons_succ, List.getElem?_cons_zero]; rfl) (by kernel_rfl) (by kernel_rfl) (by kernel_rfl) (by intro _ _ _ h; exact h) (Or.inl ⟨by rfl, ?_⟩) (by assumption) ?_
      rotate_left
      · intro w hSw
        (try dsimp only at hSw)
        first | (go_simp; done) | (go_simp; with_reducible rfl) | with_reducible rfl
      simp only [Act.put, List.setIfInBounds_toArray, List.set_cons_zero, List.set_cons_succ]
      refine wpAnyH_take (i := 6) (v := ?_) (by simp only [List.getElem?_toArray, List.getElem?_cons_succ, List.getElem?_cons_zero]; rfl) (by kernel_rfl) (by kernel_rfl) (by kernel_rfl) (by intro _ _ _ h; exact h) (Or.inl ⟨by rfl, ?_⟩) (by assumption) ?_
      rotate_left
      · intro w hSw
        (try dsimp only at hSw)
        first | (go_simp; done) | (go_simp; with_reducible rfl) | with_reducible rfl
      simp only [Act.put, List.setIfInBounds_toArray, List.set_cons_zero, List.set_cons_succ]
      refine wpAnyH_take (i := 7) (v := ?_) (by simp only [List.getElem?_toArray, List.getElem?_cons_succ, List.getElem?_cons_zero]; rfl) (by kernel_rfl) (by kernel_rfl) (by kernel_rfl) (by intro _ _ _ h; exact h) (Or.inl ⟨by rfl, ?_⟩) (by assumption) ?_
      rotate_left
      · intro w hSw
        (try dsimp only at hSw)
        first | (go_simp; done) | (go_simp; with_reducible rfl) | with_reducible rfl
      simp only [Act.put, List.setIfInBounds_toArray, List.set_cons_zero, List.set_cons_succ]
      have hHeld : True := trivial
      refine wpAnyH_ready (rs := [5]) (by kernel_rfl) (by simp) ?_
      refine AllReadyH.cons rfl (fun K hK => ?_) AllReadyH.nil
      go_simp
      (go_at_call 76; refine (HCI.out _ N3.out.drew).mono ?_; rintro e w4 ⟨rfl, n4⟩; have N4 := hid ((Mod.refl (fun _ => False) W3).drew.trans n4); clear n4)
      try dsimp only
      refine hK.out _ _ ⟨New.cellv N4.out f0, New.cellv N4.out s0, New.cellv N4.out o0, New.cellv N4.out o1, New.cellv N4.out x0, New.cellv N4.out x1⟩ (fun hHeld5 => ?_)
      clear hK K
      try simp only [Act.put, List.setIfInBounds_toArray, List.set_cons_zero, List.set_cons_succ]
      refine wpAnyH_ready (rs := [8]) (by kernel_rfl) (by simp) ?_
      refine AllReadyH.cons rfl (fun K hK => ?_) AllReadyH.nil
      go_simp
      (go_at_call 76; refine (HCB.out _ (N3.out.trans N4.out)).mono ?_; rintro e w5 ⟨rfl, n5⟩; have N5 := hid (N4.out.trans n5); clear n5)
      try dsimp only
      refine hK.out _ _ ⟨New.cellv N5.out f0, New.cellv N5.out s0, New.cellv N5.out o0, New.cellv N5.out o1, New.cellv N5.out x0, New.cellv N5.out x1⟩ (fun hHeld8 => ?_)
      clear hK K
      try simp only [Act.put, List.setIfInBounds_toArray, List.set_cons_zero, List.set_cons_succ]
      refine wpAnyH_take (i := 9) (v := ?_) (by simp only [List.getElem?_toArray, List.getElem?_cons_succ, List.getElem?_cons_zero]; rfl) (by kernel_rfl) (by kernel_rfl) (by kernel_rfl) (by intro _ _ _ h; exact h) (Or.inl ⟨by rfl, ?_⟩) (by assumption) ?_
      rotate_left
      · intro w hSw
        (try dsimp only at hSw)
        first | (go_simp; done) | (go_simp; with_reducible rfl) | with_reducible rfl
      simp only [Act.put, List.setIfInBounds_toArray, List.set_cons_zero, List.set_cons_succ]
      refine wpAnyH_take (i := 10) (v := ?_) (by simp only [List.getElem?_toArray, List.getElem?_cons_succ, List.getElem?_cons_zero]; rfl) (by kernel_rfl) (by kernel_rfl) (by kernel_rfl) (by intro _ _ _ h; exact h) (Or.inl ⟨by rfl, ?_⟩) (by assumption) ?_
      rotate_left
      · intro w hSw
        (try dsimp only at hSw)
        first | (go_simp; done) | (go_simp; with_reducible rfl) | with_reducible rfl
      simp only [Act.put, List.setIfInBounds_toArray, List.set_cons_zero, List.set_cons_succ]
      refine wpAnyH_done (by kernel_rfl) ?_ _
      have x0 := New.cellv N5.out x0; have x1 := New.cellv N5.out x1; have xl : W.heap.size < w5.heap.size := Nat.lt_of_lt_of_le xl N5.out.size
      have HE5 := hid (HE3.out.step N5.out)
      have o0 := New.cellv N5.out o0; have o1 := New.cellv N5.out o1; have s0 := New.cellv N5.out s0
      have ol := HE5.out.o2.lt; have of0 := HE5.out.o2.frz 0; have of1 := HE5.out.o2.frz 1; have sf := HE5.out.s3.frz 0; have sl := HE5.out.s3.lt
      by_cases hq : min (b2 : Int) c.run < min (j : Int) c.run
      · have HB := hid (show stepB c.run (some (b1, b2)) (i, j) = some (i, j) by unfold stepB; exact if_pos hq)
        gi_wp2
        have h9 := (HE5.out.wr (i, j))
        exact ⟨h9.hL, rfl, by rw [HB.out]; exact h9.put⟩
      · have HB := hid (show stepB c.run (some (b1, b2)) (i, j) = some (b1, b2) by unfold stepB; exact if_neg hq)
        gi_wp2
        exact ⟨HE5.out.hL, rfl, by rw [HB.out]; exact HE5.out.put⟩
end Go.Proofs.YtnhgichiedninaaGreatDoor
