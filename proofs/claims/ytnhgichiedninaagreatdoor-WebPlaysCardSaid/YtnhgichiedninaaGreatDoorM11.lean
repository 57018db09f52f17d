/-
  Several texts in one, in their build order. The walk of Next (package web) when there is a run to be got. Conditions: the client lies as told.
-/
import Derived.Test.YtnhgichiedninaaGreatDoorM10
namespace Go.Proofs.YtnhgichiedninaaGreatDoor
set_option linter.unusedSimpArgs false
set_option linter.unusedVariables false
open Go.RowKit Go.Shelf

theorem next_facts {c : CliV} {now : Int} (h : c.nextE now = 0) : c.atE now = 0 ∧ ∃ k b, c.nIdx now = some k ∧ c.best = some b := by
  unfold CliV.nextE at h
  by_cases hz : c.atE now = 0
  · rw [if_neg (by simpa using hz)] at h
    refine ⟨hz, ?_⟩
    cases h1 : c.best with
    | none => rw [h1] at h; simp at h
    | some b =>
      cases h2 : c.nIdx now with
      | none => rw [h1, h2] at h; simp at h
      | some k => exact ⟨k, b, rfl, rfl⟩
  · rw [if_pos hz] at h
    exact absurd h hz
theorem at_facts {c : CliV} {now : Int} (h : c.atE now = 0) : c.now ≤ now ∧ now ≤ 1000000000 := by
  unfold CliV.atE at h
  split at h
  · cases h
  · omega
/-- The run that is got: of pieces that may be got. -/
theorem best_facts {c : CliV} {b : Nat × Nat} (hb : c.best = some b) (hr : 1 ≤ c.run) : c.nFrm = b.1 ∧ c.nCnt = min (b.2 : Int) c.run ∧ 1 ≤ c.nCnt ∧ b.1 + b.2 ≤ c.n ∧ ∀ k, b.1 ≤ k → k < b.1 + b.2 → c.free k = true := by
  have hm : b ∈ runsF c.free c.n 0 := by
    rcases best_mem c.run (runsF c.free c.n 0) none b hb with q | q
    · cases q
    · exact q
  obtain ⟨h0, h1, h2, h3⟩ := runs_good c.free c.n (c.n - 0) 0 (Nat.le_refl _) b hm
  have e1 : c.nFrm = b.1 := by unfold CliV.nFrm; rw [hb]; rfl
  have e2 : c.nCnt = min (b.2 : Int) c.run := by unfold CliV.nCnt; rw [hb]; rfl
  exact ⟨e1, e2, by omega, h2, h3⟩
set_option maxRecDepth 100000 in
set_option maxHeartbeats 8000000 in
theorem cnext_yes (B SB cap MB : Nat) (ps : List Nat) (c : CliV) (G : List (Value × Value)) (now : Int) (w : World) (h : CliAt w B SB cap MB ps c G) (hok : c.nextE now = 0) :
    Calls Tryz.prog 10 #[.pointer (some ⟨B, 0, none⟩), .int .i64 now] w fun e w' => ∃ k : Nat, c.nIdx now = some k ∧ e = .returned (.tuple #[.int .i64 k, .agg #[.int .i64 c.nFrm, .int .i64 c.nCnt], .int .i64 0]) ∧ CliAt w' B SB cap MB ps (c.nextC now) G ∧ Mod (CliT B MB ps) w w' := by
  have HAT := hid (fun W (q : New w W) => cat_any B SB cap MB ps c G now W (h.new q))
  have HLO := hid (fun W (q : New w W) => clongest_any B SB cap MB ps c G W (h.new q))
  have HIX := hid (fun X W (q : New w W) (qx : W.cell? ⟨X, 0, none⟩ = some (.int .i64 now)) => cidxN_any B SB cap MB ps c G X (freeS now) W (h.new q) (fun j p W' hj hp q' => next1_any p X _ now W' (New.blk q' ((h.new q).each j p _ hp (List.getElem?_eq_getElem hj))) (New.cellv q' qx)))
  have hr := h.room; have hB := h.row.lt; have hf := h.few
  unfold maxLen at hr
  have HC := hid h
  obtain ⟨ha0, k, b, hk, hb⟩ := next_facts hok
  obtain ⟨t0, t1⟩ := at_facts ha0
  have hnn := h.nums
  obtain ⟨e1, e2, e3, e4, e5⟩ := best_facts hb hnn.1
  have hkl : k < c.seeds.length := by
    unfold CliV.nIdx at hk
    exact (List.findIdx?_eq_some_iff_getElem.1 hk).1
  have hix : idxOf (freeS now) c.seeds = (k : Int) := by
    unfold idxOf
    unfold CliV.nIdx at hk
    rw [hk]
  obtain ⟨p, hp, hp2, hp3⟩ := h.seed hkl
  have hpl := hp3.lt
  have HNC := hid (show c.nextC now = (⟨c.seeds.set k (c.seeds[k].start c.nFrm c.nCnt), c.n, c.want, c.run, now⟩ : CliV) by
    unfold CliV.nextC
    rw [hk]
    simp only [List.getElem?_eq_getElem hkl])
  have hn1 := h.n1
  have hRN := hid (show 0 ≤ c.nFrm ∧ 0 ≤ c.nCnt ∧ c.nFrm + c.nCnt ≤ c.n by omega)
  rw [ha0] at HAT
  rw [hix] at HIX
  have hbs : c.best.isSome = true := by rw [hb]; rfl
  rw [hbs] at HLO
  obtain ⟨s, hs⟩ : ∃ s, s = c.seeds[k] := ⟨_, rfl⟩
  rw [← hs] at HNC hp3
  obtain ⟨fa, hfa⟩ : ∃ fa, fa = c.nFrm := ⟨_, rfl⟩
  obtain ⟨fb, hfb⟩ : ∃ fb, fb = c.nCnt := ⟨_, rfl⟩
  rw [← hfa, ← hfb] at HLO HNC hRN ⊢
  have HK := hid hk; have HP := hid hp; have HP3 := hid hp3
  have hp1 := hid (show p ≠ B ∧ p ∈ ps from ⟨fun e => h.bp.1 (e ▸ List.mem_of_getElem? hp), List.mem_of_getElem? hp⟩)
  have HBS := hid h.bp.2.2.2.1
  have HSB := hid h.bp.2.1
  have HSE := hid hs.symm
  have HBL := hid h.below
  clear h hok ha0 hk hb e1 e2 e3 e4 e5 hix hp hp2 hp3 hbs hs hfa hfb
  go_enter Tryz.func10, Tryz.ntmps10
  go_wp2_with (first | (go_at_call 36; refine (HAT.out _ (((Mod.refl _ _).alloc _).alloc _)).mono ?_; rintro e w1 ⟨rfl, rfl⟩) | fail)
  refine (HLO.out _ (((Mod.refl _ _).alloc _).alloc _)).mono ?_
  rintro e w1 ⟨rfl, n1⟩
  have N1 : Hid (New w w1) := hid ((((Mod.refl _ w).alloc (.cells #[.int .i64 now] 3)).alloc (.cells #[.int .i64 0, .int .i64 0] 34) : New w _).trans n1)
  have X1 : Hid (Blk w1 w.heap.size #[.int .i64 now] 3) := hid (New.blk n1 ((Blk.new _ _ _).alloc _))
  have R1 : Hid (Blk w1 (w.heap.size + 1) #[.int .i64 0, .int .i64 0] 34) := hid (New.blk n1 (Blk.newAt (by simp)))
  have c0 := (HC.out.new N1.out).row.cellv 0 rfl; have cl := (HC.out.new N1.out).row.lt
  clear n1
  go_wp2_with fail
  refine (HIX.out w.heap.size _ (N1.out.alloc _) ((X1.out.alloc _).cellv 0 rfl)).mono ?_
  rintro e w2 ⟨rfl, n2⟩
  have N2 := hid ((N1.out.alloc (.cells #[.int .i64 fa, .int .i64 fb] 34)).trans n2)
  have R2 := hid (New.blk n2 (R1.out.alloc (.cells #[.int .i64 fa, .int .i64 fb] 34)))
  have X2 := hid (New.blk n2 (X1.out.alloc (.cells #[.int .i64 fa, .int .i64 fb] 34)))
  have T2 : Hid (Blk w2 w1.heap.size #[.int .i64 fa, .int .i64 fb] 34) := hid (New.blk n2 (Blk.new w1 _ _))
  have C2 := hid (HC.out.new N2.out)
  have z1 := N1.out.size
  have hR1 := R1.out.lt
  have x0 := X2.out.cellv 0 rfl; have xl := X2.out.lt
  have b4 := C2.out.row.cellv 4 rfl; have bl := C2.out.row.lt; have bf := C2.out.row.frz 4
  clear n2 c0 cl
  have hk0 : ¬ (k : Int) < 0 := by omega
  go_wp2_with fail
  refine name_worldZ (p := fun W => Code.wp _ _ _ _ W) (fun W3 hW3 => ?_)
  have C3 : Hid (CliAt W3 B SB cap MB ps { c with now := now } G) := hid (by rw [hW3]; exact C2.out.time ⟨by omega, t1⟩)
  have hbne : B ≠ w1.heap.size := by omega
  have hbne2 : B ≠ w.heap.size + 1 := by omega
  have T3 : Hid (Blk W3 w1.heap.size #[.int .i64 fa, .int .i64 fb] 34) := hid (by rw [hW3]; exact Blk.other (fun e => hbne e.symm) T2.out)
  have R3 : Hid (Blk W3 (w.heap.size + 1) #[.int .i64 0, .int .i64 0] 34) := hid (by rw [hW3]; exact Blk.other (fun e => hbne2 e.symm) R2.out)
  have M3 : Hid (Mod (CliT B MB ps) w W3) := hid (by rw [hW3]; exact Mod.set (New.mod N2.out) _ _ (.inl (.inl rfl)))
  clear hW3 b4 bl bf x0 xl
  have c0 := C3.out.row.cellv 0 rfl; have cl := C3.out.row.lt
  have s0 := C3.out.ptr k p HP.out; have sl := C3.out.slt
  have t0 := T3.out.cellv 0 rfl; have t1 := T3.out.cellv 1 rfl; have tl := T3.out.lt
  have P3 : Hid (Blk W3 p (seedRow s) 82) := hid (by
    have := C3.out.each k p c.seeds[k] HP.out (List.getElem?_eq_getElem hkl)
    rwa [HSE.out] at this)
  have p0 : W3.cell? ⟨p, 0, none⟩ = some (.int .i64 s.frm) := P3.out.cellv 0 rfl
  have p1 : W3.cell? ⟨p, 1, none⟩ = some (.int .i64 s.cnt) := P3.out.cellv 1 rfl
  have p2 : W3.cell? ⟨p, 2, none⟩ = some (.bool s.under) := P3.out.cellv 2 rfl
  have pl := P3.out.lt
  have pf0 := P3.out.frz 0; have pf1 := P3.out.frz 1; have pf2 := P3.out.frz 2
  have hpT : p ≠ w1.heap.size := by omega
  have hpR : p ≠ w.heap.size + 1 := by omega
  have hpB := hp1.out.1
  have hpS : p ≠ SB := fun e => HSB.out (e ▸ hp1.out.2)
  go_wp2_with fail
  refine wp_region_held_drew (S := (fun w' => w'.cell? ⟨B, 0, none⟩ = some (.slice (some ⟨SB, 0, none⟩) c.seeds.length cap) ∧ w'.cell? ⟨SB, k, none⟩ = some (.pointer (some ⟨p, 0, none⟩)) ∧ w'.cell? ⟨w1.heap.size, 0, none⟩ = some (.int .i64 fa) ∧ w'.cell? ⟨w1.heap.size, 1, none⟩ = some (.int .i64 fb))) (by kernel_rfl) ⟨c0, s0, t0, t1⟩ (fun hHeld => ?_)
  refine wpAnyH_take (i := 0) (v := ?_) (by simp only [List.getElem?_toArray, List.getElem?_cons_succ, List.getElem?_cons_zero]; rfl) (by kernel_rfl) (by kernel_rfl) (by kernel_rfl) (by intro _ _ _ h; exact h) (Or.inl ⟨by rfl, ?_⟩) (by assumption) ?_
  rotate_left
  · intro w hSw
    (try dsimp only at hSw)
    first | (go_simp; done) | (go_simp; with_reducible rfl) | with_reducible rfl
  simp only [Act.put, List.setIfInBounds_toArray, List.set_cons_zero, List.set_cons_succ]
  refine wpAnyH_take (i := 1) (v := ?_) (by simp only [List.getElem?_toArray, List.getElem?_cons_succ, List.getElem?_cons_zero]; rfl) (by kernel_rfl) (by kernel_rfl) (by kernel_rfl) (by intro _ _ _ h; exact h) (Or.inl ⟨by rfl, ?_⟩) (by assumption) ?_
  rotate_left
  · intro w hSw
    (try dsimp only at hSw)
    first | (go_simp; done) | (go_simp; with_reducible rfl) | with_reducible rfl
  simp only [Act.put, List.setIfInBounds_toArray, List.set_cons_zero, List.set_cons_succ]
  refine wpAnyH_take (i := 2) (v := ?_) (by simp only [List.getElem?_toArray, List.getElem?_cons_succ, List.getElem?_cons_zero]; rfl) (by kernel_rfl) (by kernel_rfl) (by kernel_rfl) (by intro _ _ _ h; exact h) (Or.inl ⟨by rfl, ?_⟩) (by assumption) ?_
  rotate_left
  · intro w hSw
    (try dsimp only at hSw)
    first | (go_simp; done) | (go_simp; with_reducible rfl) | with_reducible rfl
  simp only [Act.put, List.setIfInBounds_toArray, List.set_cons_zero, List.set_cons_succ]
  refine wpAnyH_take (i := 3) (v := ?_) (by simp only [List.getElem?_toArray, List.getElem?_cons_succ, List.getElem?_cons_zero]; rfl) (by kernel_rfl) (by kernel_rfl) (by kernel_rfl) (by intro _ _ _ h; exact h) (Or.inl ⟨by rfl, ?_⟩) (by assumption) ?_
  rotate_left
  · intro w hSw
    (try dsimp only at hSw)
    first | (go_simp; done) | (go_simp; with_reducible rfl) | with_reducible rfl
  simp only [Act.put, List.setIfInBounds_toArray, List.set_cons_zero, List.set_cons_succ]
  refine wpAnyH_take (i := 4) (v := ?_) (by simp only [List.getElem?_toArray, List.getElem?_cons_succ, List.getElem?_cons_zero]; rfl) (by kernel_rfl) (by kernel_rfl) (by kernel_rfl) (by intro _ _ _ h; exact h) (Or.inl ⟨by rfl, ?_⟩) (by assumption) ?_
  rotate_left
  · intro w hSw
    (try dsimp only at hSw)
    first | (go_simp; done) | (go_simp; with_reducible rfl) | with_reducible rfl
  simp only [Act.put, List.setIfInBounds_toArray, List.set_cons_zero, List.set_cons_succ]
  refine wpAnyH_take (i := 5) (v := ?_) (by simp only [List.getElem?_toArray, List.getElem?_cons_succ, List.getElem?_cons_zero]; rfl) (by kernel_rfl) (by kernel_rfl) (by kernel_rfl) (by intro _ _ _ h; exact h) (Or.inl ⟨by rfl, ?_⟩) (by assumption) ?_
  rotate_left
  · intro w hSw
    (try dsimp only at hSw)
    first | (go_simp; done) | (go_simp; with_reducible rfl) | with_reducible rfl
  simp only [Act.put, List.setIfInBounds_toArray, List.set_cons_zero, List.set_cons_succ]
  refine wpAnyH_take (i := 6) (v := ?_) (by simp only [List.getElem?_toArray, List.getElem?_cons_succ, List.getElem?_cons_zero]; rfl) (by kernel_rfl) (by kernel_rfl) (by kernel_rfl) (by intro _ _ _ h; exact h) (Or.inl ⟨by rfl, ?_⟩) (by assumption) ?_
  rotate_left
  · intro w hSw
    (try dsimp only at hSw)
    first | (go_simp; done) | (go_simp; with_reducible rfl) | with_reducible rfl
  simp only [Act.put, List.setIfInBounds_toArray, List.set_cons_zero, List.set_cons_succ]
  refine wpAnyH_take (i := 7) (v := ?_) (by simp only [List.getElem?_toArray, List.getElem?_cons_succ, List.getElem?_cons_zero]; rfl) (by kernel_rfl) (by kernel_rfl) (by kernel_rfl) (by intro _ _ _ h; exact h) (Or.inl ⟨by rfl, ?_⟩) (by assumption) ?_
  rotate_left
  · intro w hSw
    (try dsimp only at hSw)
    first | (go_simp; done) | (go_simp; with_reducible rfl) | with_reducible rfl
  simp only [Act.put, List.setIfInBounds_toArray, List.set_cons_zero, List.set_cons_succ]
  refine wpAnyH_take (i := 8) (v := ?_) (by simp only [List.getElem?_toArray, List.getElem?_cons_succ, List.getElem?_cons_zero]; rfl) (by kernel_rfl) (by kernel_rfl) (by kernel_rfl) (by intro _ _ _ h; exact h) (Or.inl ⟨by rfl, ?_⟩) (by assumption) ?_
  rotate_left
  · intro w hSw
    (try dsimp only at hSw)
    first | (go_simp; done) | (go_simp; with_reducible rfl) | with_reducible rfl
  simp only [Act.put, List.setIfInBounds_toArray, List.set_cons_zero, List.set_cons_succ]
  refine wpAnyH_take (i := 9) (v := ?_) (by simp only [List.getElem?_toArray, List.getElem?_cons_succ, List.getElem?_cons_zero]; rfl) (by kernel_rfl) (by kernel_rfl) (by kernel_rfl) (by intro _ _ _ h; exact h) (Or.inl ⟨by rfl, ?_⟩) (by assumption) ?_
  rotate_left
  · intro w hSw
    (try dsimp only at hSw)
    first | (go_simp; done) | (go_simp; with_reducible rfl) | with_reducible rfl
  simp only [Act.put, List.setIfInBounds_toArray, List.set_cons_zero, List.set_cons_succ]
  refine wpAnyH_take (i := 10) (v := ?_) (by simp only [List.getElem?_toArray, List.getElem?_cons_succ, List.getElem?_cons_zero]; rfl) (by kernel_rfl) (by kernel_rfl) (by kernel_rfl) (by intro _ _ _ h; exact h) (Or.inl ⟨by rfl, ?_⟩) (by assumption) ?_
  rotate_left
  · intro w hSw
    (try dsimp only at hSw)
    first | (go_simp; done) | (go_simp; with_reducible rfl) | with_reducible rfl
  simp only [Act.put, List.setIfInBounds_toArray, List.set_cons_zero, List.set_cons_succ]
  refine wpAnyH_take (i := 11) (v := ?_) (by simp only [List.getElem?_toArray, List.getElem?_cons_succ, List.getElem?_cons_zero]; rfl) (by kernel_rfl) (by kernel_rfl) (by kernel_rfl) (by intro _ _ _ h; exact h) (Or.inl ⟨by rfl, ?_⟩) (by assumption) ?_
  rotate_left
  · intro w hSw
    (try dsimp only at hSw)
    first | (go_simp; done) | (go_simp; with_reducible rfl) | with_reducible rfl
  simp only [Act.put, List.setIfInBounds_toArray, List.set_cons_zero, List.set_cons_succ]
  refine wpAnyH_take (i := 12) (v := ?_) (by simp only [List.getElem?_toArray, List.getElem?_cons_succ, List.getElem?_cons_zero]; rfl) (by kernel_rfl) (by kernel_rfl) (by kernel_rfl) (by intro _ _ _ h; exact h) (Or.inl ⟨by rfl, ?_⟩) (by assumption) ?_
  rotate_left
  · intro w hSw
    (try dsimp only at hSw)
    first | (go_simp; done) | (go_simp; with_reducible rfl) | with_reducible rfl
  simp only [Act.put, List.setIfInBounds_toArray, List.set_cons_zero, List.set_cons_succ]
  refine wpAnyH_take (i := 13) (v := ?_) (by simp only [List.getElem?_toArray, List.getElem?_cons_succ, List.getElem?_cons_zero]; rfl) (by kernel_rfl) (by kernel_rfl) (by kernel_rfl) (by intro _ _ _ h; exact h) (Or.inl ⟨by rfl, ?_⟩) (by assumption) ?_
  rotate_left
  · intro w hSw
    (try dsimp only at hSw)
    first | (go_simp; done) | (go_simp; with_reducible rfl) | with_reducible rfl
  simp only [Act.put, List.setIfInBounds_toArray, List.set_cons_zero, List.set_cons_succ]
  refine wpAnyH_take (i := 14) (v := ?_) (by simp only [List.getElem?_toArray, List.getElem?_cons_succ, List.getElem?_cons_zero]; rfl) (by kernel_rfl) (by kernel_rfl) (by kernel_rfl) (by intro _ _ _ h; exact h) (Or.inl ⟨by rfl, ?_⟩) (by assumption) ?_
  rotate_left
  · intro w hSw
    (try dsimp only at hSw)
    first | (go_simp; done) | (go_simp; with_reducible rfl) | with_reducible rfl
  simp only [Act.put, List.setIfInBounds_toArray, List.set_cons_zero, List.set_cons_succ]
  refine wpAnyH_take (i := 15) (v := ?_) (by simp only [List.getElem?_toArray, List.getElem?_cons_succ, List.getElem?_cons_zero]; rfl) (by kernel_rfl) (by kernel_rfl) (by kernel_rfl) (by intro _ _ _ h; exact h) (Or.inl ⟨by rfl, ?_⟩) (by assumption) ?_
  rotate_left
  · intro w hSw
    (try dsimp only at hSw)
    first | (go_simp; done) | (go_simp; with_reducible rfl) | with_reducible rfl
  simp only [Act.put, List.setIfInBounds_toArray, List.set_cons_zero, List.set_cons_succ]
  refine wpAnyH_take (i := 16) (v := ?_) (by simp only [List.getElem?_toArray, List.getElem?_cons_succ, List.getElem?_cons_zero]; rfl) (by kernel_rfl) (by kernel_rfl) (by kernel_rfl) (by intro _ _ _ h; exact h) (Or.inl ⟨by rfl, ?_⟩) (by assumption) ?_
  rotate_left
  · intro w hSw
    (try dsimp only at hSw)
    first | (go_simp; done) | (go_simp; with_reducible rfl) | with_reducible rfl
  simp only [Act.put, List.setIfInBounds_toArray, List.set_cons_zero, List.set_cons_succ]
  refine wpAnyH_ready (rs := [17]) (by kernel_rfl) (by simp) ?_
  refine AllReadyH.cons (by simp only [List.getElem?_toArray, List.getElem?_cons_succ, List.getElem?_cons_zero]; rfl) (fun K hK => ?_) AllReadyH.nil
  go_simp
  refine hK.out _ _ ⟨blk_cell hpB (blk_cell hpB c0), blk_cell hpS (blk_cell hpS s0), blk_cell hpT (blk_cell hpT t0), blk_cell hpT (blk_cell hpT t1)⟩ (fun hHeld17 => ?_)
  clear hK K
  try simp only [Act.put, List.setIfInBounds_toArray, List.set_cons_zero, List.set_cons_succ]
  refine wpAnyH_take (i := 18) (v := ?_) (by simp only [List.getElem?_toArray, List.getElem?_cons_succ, List.getElem?_cons_zero]; rfl) (by kernel_rfl) (by kernel_rfl) (by kernel_rfl) (by intro _ _ _ h; exact h) (Or.inl ⟨by rfl, ?_⟩) (by assumption) ?_
  rotate_left
  · intro w hSw
    (try dsimp only at hSw)
    first | (go_simp; done) | (go_simp; with_reducible rfl) | with_reducible rfl
  simp only [Act.put, List.setIfInBounds_toArray, List.set_cons_zero, List.set_cons_succ]
  refine wpAnyH_take (i := 19) (v := ?_) (by simp only [List.getElem?_toArray, List.getElem?_cons_succ, List.getElem?_cons_zero]; rfl) (by kernel_rfl) (by kernel_rfl) (by kernel_rfl) (by intro _ _ _ h; exact h) (Or.inl ⟨by rfl, ?_⟩) (by assumption) ?_
  rotate_left
  · intro w hSw
    (try dsimp only at hSw)
    first | (go_simp; done) | (go_simp; with_reducible rfl) | with_reducible rfl
  simp only [Act.put, List.setIfInBounds_toArray, List.set_cons_zero, List.set_cons_succ]
  refine wpAnyH_ready (rs := [20]) (by kernel_rfl) (by simp) ?_
  refine AllReadyH.cons (by simp only [List.getElem?_toArray, List.getElem?_cons_succ, List.getElem?_cons_zero]; rfl) (fun K hK => ?_) AllReadyH.nil
  go_simp
  refine hK.out _ _ ⟨blk_cell hpB (blk_cell hpB (blk_cell hpB c0)), blk_cell hpS (blk_cell hpS (blk_cell hpS s0)), blk_cell hpT (blk_cell hpT (blk_cell hpT t0)), blk_cell hpT (blk_cell hpT (blk_cell hpT t1))⟩ (fun hHeld20 => ?_)
  clear hK K
  try simp only [Act.put, List.setIfInBounds_toArray, List.set_cons_zero, List.set_cons_succ]
  refine wpAnyH_done (by kernel_rfl) ?_ _
  refine name_worldZ (p := fun W => Exit.then _ _ _ _ W) (fun W4 hW4 => ?_)
  have P4 : Blk W4 p (seedRow (s.start fa fb)) 82 := by
    rw [hW4]
    exact (((P3.out.drew.set 0 _).set 1 _).set 2 _).row (by simp [seedRow, SeedV.start])
  have M4 : Mod (fun q => q = p) W3 W4 := by
    rw [hW4]
    exact Mod.drew (Mod.set (S := fun q => q = p) (Mod.set (S := fun q => q = p) (Mod.set (S := fun q => q = p) (Mod.refl _ W3) ⟨p, 0, none⟩ _ (.inl rfl)) ⟨p, 1, none⟩ _ (.inl rfl)) ⟨p, 2, none⟩ _ (.inl rfl))
  clear hW4
  have C4 := hid (C3.out.put (s := s.start fa fb) HP.out P4 M4 hRN.out)
  have MM4 : Hid (Mod (CliT B MB ps) w W4) := hid (M3.out.trans' M4 (fun q hq e => .inr (.inr (by have e2 : q = p := e; rw [e2]; exact hp1.out.2))))
  have T4 := hid (M4.blk T3.out (fun e => hpT e.symm))
  have R4 := hid (M4.blk R3.out (fun e => hpR e.symm))
  have t0 := T4.out.cellv 0 rfl; have t1 := T4.out.cellv 1 rfl; have tl := T4.out.lt
  have r0 := R4.out.cellv 0 rfl; have r1 := R4.out.cellv 1 rfl; have rl := R4.out.lt; have rf0 := R4.out.frz 0; have rf1 := R4.out.frz 1
  clear M4 P4
  have hRT : w.heap.size + 1 ≠ w1.heap.size := by omega
  go_wp2_with fail
  refine wp_region_held_drew (S := (fun w' => w'.cell? ⟨w1.heap.size, 0, none⟩ = some (.int .i64 fa) ∧ w'.cell? ⟨w1.heap.size, 1, none⟩ = some (.int .i64 fb))) (by kernel_rfl) ⟨t0, t1⟩ (fun hHeld => ?_)
  refine wpAnyH_take (i := 0) (v := ?_) (by simp only [List.getElem?_toArray, List.getElem?_cons_succ, List.getElem?_cons_zero]; rfl) (by kernel_rfl) (by kernel_rfl) (by kernel_rfl) (by intro _ _ _ h; exact h) (Or.inl ⟨by rfl, ?_⟩) (by assumption) ?_
  rotate_left
  · intro w hSw
    (try dsimp only at hSw)
    first | (go_simp; done) | (go_simp; with_reducible rfl) | with_reducible rfl
  simp only [Act.put, List.setIfInBounds_toArray, List.set_cons_zero, List.set_cons_succ]
  refine wpAnyH_take (i := 1) (v := ?_) (by simp only [List.getElem?_toArray, List.getElem?_cons_succ, List.getElem?_cons_zero]; rfl) (by kernel_rfl) (by kernel_rfl) (by kernel_rfl) (by intro _ _ _ h; exact h) (Or.inl ⟨by rfl, ?_⟩) (by assumption) ?_
  rotate_left
  · intro w hSw
    (try dsimp only at hSw)
    first | (go_simp; done) | (go_simp; with_reducible rfl) | with_reducible rfl
  simp only [Act.put, List.setIfInBounds_toArray, List.set_cons_zero, List.set_cons_succ]
  refine wpAnyH_take (i := 2) (v := ?_) (by simp only [List.getElem?_toArray, List.getElem?_cons_succ, List.getElem?_cons_zero]; rfl) (by kernel_rfl) (by kernel_rfl) (by kernel_rfl) (by intro _ _ _ h; exact h) (Or.inl ⟨by rfl, ?_⟩) (by assumption) ?_
  rotate_left
  · intro w hSw
    (try dsimp only at hSw)
    first | (go_simp; done) | (go_simp; with_reducible rfl) | with_reducible rfl
  simp only [Act.put, List.setIfInBounds_toArray, List.set_cons_zero, List.set_cons_succ]
  refine wpAnyH_ready (rs := [3]) (by kernel_rfl) (by simp) ?_
  refine AllReadyH.cons (by simp only [List.getElem?_toArray, List.getElem?_cons_succ, List.getElem?_cons_zero]; rfl) (fun K hK => ?_) AllReadyH.nil
  go_simp
  refine hK.out _ _ ⟨blk_cell hRT (blk_cell hRT t0), blk_cell hRT (blk_cell hRT t1)⟩ (fun hHeld3 => ?_)
  clear hK K
  try simp only [Act.put, List.setIfInBounds_toArray, List.set_cons_zero, List.set_cons_succ]
  refine wpAnyH_take (i := 4) (v := ?_) (by simp only [List.getElem?_toArray, List.getElem?_cons_succ, List.getElem?_cons_zero]; rfl) (by kernel_rfl) (by kernel_rfl) (by kernel_rfl) (by intro _ _ _ h; exact h) (Or.inl ⟨by rfl, ?_⟩) (by assumption) ?_
  rotate_left
  · intro w hSw
    (try dsimp only at hSw)
    first | (go_simp; done) | (go_simp; with_reducible rfl) | with_reducible rfl
  simp only [Act.put, List.setIfInBounds_toArray, List.set_cons_zero, List.set_cons_succ]
  refine wpAnyH_done (by kernel_rfl) ?_ _
  refine name_worldZ (p := fun W => Exit.then _ _ _ _ W) (fun W5 hW5 => ?_)
  have R5 : Blk W5 (w.heap.size + 1) #[.int .i64 fa, .int .i64 fb] 34 := by
    rw [hW5]
    exact ((R4.out.drew.set 0 _).set 1 _).row (by simp)
  have M5 : Mod (fun q => q = w.heap.size + 1) W4 W5 := by
    rw [hW5]
    exact Mod.drew (Mod.set (S := fun q => q = w.heap.size + 1) (Mod.set (S := fun q => q = w.heap.size + 1) (Mod.refl _ W4) ⟨w.heap.size + 1, 0, none⟩ _ (.inl rfl)) ⟨w.heap.size + 1, 1, none⟩ _ (.inl rfl))
  clear hW5
  have C5 := hid (C4.out.other M5 (fun q e => HBL.out q (by have e2 : q = w.heap.size + 1 := e; omega)))
  have MM5 := hid (MM4.out.trans' M5 (fun q hq e => by have e2 : q = w.heap.size + 1 := e; omega))
  have r0 := R5.cellv 0 rfl; have r1 := R5.cellv 1 rfl
  clear M5 R5
  go_wp2
  refine bodyPost_ret (v := .tuple #[.int .i64 k, .agg #[.int .i64 fa, .int .i64 fb], .int .i64 0]) (by simp [results, Tryz.results10, go_sem, r0, r1]) rfl ⟨k, HK.out, rfl, ?_, MM5.out⟩
  rw [HNC.out]
  exact C5.out
end Go.Proofs.YtnhgichiedninaaGreatDoor
