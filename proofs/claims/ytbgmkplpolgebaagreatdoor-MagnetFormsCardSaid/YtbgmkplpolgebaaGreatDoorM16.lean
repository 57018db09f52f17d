/-
  Several texts in one, in their build order. The walk of Runs (package bits). Conditions: the field is right; at most 4096 bits.
-/
import Derived.Test.YtbgmkplpolgebaaGreatDoorM15
import Derived.Recover
import Derived.DefersIn
namespace Go.Proofs.YtbgmkplpolgebaaGreatDoor
set_option linter.unusedSimpArgs false
set_option linter.unusedVariables false
open Go.RowKit Go.Shelf
attribute [local go_sem] Oper.semAt_some

theorem name_worldZ {p : World → Prop} {w : World} (h : ∀ W, W = w → p W) : p w := h w rfl
theorem callsDwide_of_wpS {P : Program} {n : Nat} {f : FuncId} {fn : Func} {c : Code} {args : Array Value} {u : FrameMode} {w : World} {R : Ending → FrameMode → World → Prop}
    (hf : P.funcs[f]? = some fn) (hb : fn.body = some c)
    (h : ∀ (c₀ : Frame) (cs : List Frame), c₀.mode = u →
      c.wpS P (bodyPostS P fn c₀ cs R) { tmps := args ++ Array.replicate (fn.ntmps - args.size) undef, defers := [] } (c₀ :: cs) w) :
    CallsDIn Fence.wide n P f args u w R := by
  refine ⟨trivial, fun c₀ cs hu _ => ?_⟩
  let b : Frame := { (default : Frame) with fn := f, kind := .deferred }
  have henter : Frame.enter P f args .deferred =
      b.at { tmps := args ++ Array.replicate (fn.ntmps - args.size) undef, defers := [] } [.code c] := by
    simp [Frame.enter, Frame.at, hf, hb, b]
  obtain ⟨e, a', cs', w', hq, harr⟩ := h c₀ cs hu b [] rfl rfl
  rw [← henter] at harr
  cases e with
  | normal =>
    obtain ⟨hd, u', rfl, v, hr, hR⟩ := hq
    exact ⟨.returned v, u', w', _, hR, comesIn_wide.2 (Steps.trans harr (.one step_end)), rfl, rfl, rfl, hd, fn, hf, hr⟩
  | ret =>
    obtain ⟨hd, u', rfl, v, hr, hR⟩ := hq
    obtain ⟨todo, hs⟩ := harr
    exact ⟨.returned v, u', w', _, hR, comesIn_wide.2 hs, rfl, rfl, rfl, hd, fn, hf, hr⟩
  | panic chain =>
    obtain ⟨hd, u', rfl, hR⟩ := hq
    obtain ⟨todo, hs⟩ := harr
    exact ⟨.panicked chain, u', w', _, hR, comesIn_wide.2 hs, rfl, rfl, rfl, hd, fn, hf⟩
  | exit id => exact hq.elim
  | goto l => exact hq.elim
  | outgrown =>
    obtain ⟨u', hR⟩ := hq
    exact ⟨.outgrown, u', w', b, hR, comesIn_wide.2 (harr.resolve_left (by simp [b])), rfl, rfl, trivial⟩
theorem bcaught_idleW {n : Nat} (p : Addr) (w : World) :
    CallsDIn Fence.wide n Tryz.prog 98 #[.pointer (some p)] .returning w fun e u' w' => e = .returned (.tuple #[]) ∧ u' = .returning ∧ w' = w := by
  refine callsDwide_of_wpS Tryz.func98 rfl fun c₀ cs hu => ?_
  apply wpS_seq
  apply wpS_region
  simp [wpOpsS, go_sem, recoverD, hu, Tryz.ntmps98, Exit.thenS]
  apply wpS_seq
  refine wpS_of_wp ?_
  go_wp2
  refine wpS_cond (t := false) (by simp [Act.eval, Array.replicate]) ?_
  simp only [Bool.false_eq_true, if_false]
  refine wpS_of_wp (wp_skip ?_)
  cases c₀
  simp_all [bodyPostS, results, Tryz.results98]
theorem CallsDIn.mono' {F : Fence} {n : Nat} {P : Program} {f : FuncId} {args : Array Value} {u : FrameMode} {w : World} {R R' : Ending → FrameMode → World → Prop} (h : CallsDIn F n P f args u w R) (hr : ∀ e u' w', R e u' w' → R' e u' w') : CallsDIn F n P f args u w R' :=
  ⟨h.1, fun c cs hu hq => let ⟨e, u', w', fr, r, rest⟩ := h.2 c cs hu hq; ⟨e, u', w', fr, hr _ _ _ r, rest⟩⟩
theorem all_any (x y : Value) (w : World) : Calls Tryz.prog 104 #[.agg #[x, y]] w fun e w' => e = .returned (.func (.func 148) #[] #[.pointer (some ⟨w.heap.size, 0, none⟩)]) ∧ Blk w' w.heap.size #[x, y] 120 ∧ New w w' := by
  have hmf : ∀ (fn : Fn) (first cap : Array Value) (w : World), (Instr.makeFunc fn first cap).run Tryz.prog w = .ok (.func fn first cap) w := fun _ _ _ _ => rfl
  go_enter Tryz.func104, Tryz.ntmps104
  go_wp2
  go_ret
  exact ⟨rfl, Blk.new _ _ _, (Mod.refl _ _).alloc _⟩
/-- What lies about the loop of Runs. -/
structure REnv (w : World) (fb B D n c : Nat) (s : List UInt8) (lo : Obj) (U : List (Int × Int)) (W : World) : Prop where
  box : ∃ v, Blk W w.heap.size #[v] 25 ∧ OwnR W (D + 2) v U
  err : Blk W (w.heap.size + 1) #[.int .i64 0] 28
  fld : Blk W fb #[.int .i64 n, .slice (some ⟨B, 0, none⟩) s.length c] 120
  by' : ByAt W B s
  hD : W.heap[D]? = some (.deferred (some []))
  hL : W.heap[D + 1]? = some lo
  new' : New w W
theorem obz_new {w w' : World} {k : Nat} {o : Obj} (n : New w w') (h : w.heap[k]? = some o) : w'.heap[k]? = some o := (n.block k (Array.getElem?_eq_some_iff.1 h).1 (fun q => q)).trans h
theorem REnv.put {w : World} {fb B D n c : Nat} {s : List UInt8} {lo lo' : Obj} {U : List (Int × Int)} {W : World} (h : REnv w fb B D n c s lo U W) (h1 : w.heap.size + 1 < D) (h2 : fb < D) (h3 : B < D) : REnv w fb B D n c s lo' U (W.putObj (D + 1) lo') := by
  obtain ⟨⟨v, b1, b2⟩, b3, b4, b5, b6, b7, b8⟩ := h
  refine ⟨⟨v, Blk.putObj (by omega) b1, b2.mod (S := fun k => k = D + 1) (Mod.putObj (Mod.refl _ _) _ _ (.inl rfl)) (fun k hk _ q => by omega)⟩, Blk.putObj (by omega) b3, Blk.putObj (by omega) b4, b5.of_heap (World.putObj_heap_other (by omega)), obz_put (by omega) b6, World.putObj_heap_same (Array.getElem?_eq_some_iff.1 b7).1, Mod.putObj b8 _ _ (.inr (by omega))⟩
theorem REnv.new {w : World} {fb B D n c : Nat} {s : List UInt8} {lo : Obj} {U : List (Int × Int)} {W W' : World} (h : REnv w fb B D n c s lo U W) (hm : New W W') : REnv w fb B D n c s lo U W' := by
  obtain ⟨⟨v, b1, b2⟩, b3, b4, b5, b6, b7, b8⟩ := h
  exact ⟨⟨v, New.blk hm b1, b2.new hm⟩, New.blk hm b3, New.blk hm b4, b5.new hm, obz_new hm b6, obz_new hm b7, Mod.trans b8 hm⟩
theorem REnv.grow {w : World} {fb B D n c : Nat} {s : List UInt8} {lo : Obj} {U U' : List (Int × Int)} {W W' : World} {v v' : Value} (h : REnv w fb B D n c s lo U W) (hb : Blk W w.heap.size #[v] 25) (ho : OwnR W (D + 2) v U) (ho' : OwnR W' (D + 2) v' U') (hm : Mod (fun k => D + 2 ≤ k) W W')
    (h1 : w.heap.size + 1 < D) (h2 : fb < D) (h3 : B < D) (h4 : w.heap.size + 2 ≤ fb) (h5 : w.heap.size + 2 ≤ B) : REnv w fb B D n c s lo U' (W'.setCell ⟨w.heap.size, 0, none⟩ v') := by
  obtain ⟨-, b3, b4, b5, b6, b7, b8⟩ := h
  have hms : Mod (fun k => k = w.heap.size) W' (W'.setCell ⟨w.heap.size, 0, none⟩ v') := Mod.set (Mod.refl _ _) _ _ (.inl rfl)
  refine ⟨⟨v', ((hm.blk hb (by omega)).set 0 v').row rfl, ho'.mod hms (fun k hk _ q => by omega)⟩, hms.blk (hm.blk b3 (by omega)) (by omega), hms.blk (hm.blk b4 (by omega)) (by omega), (b5.mod hm (by omega)).mod hms (by omega), obz_set (by show D ≠ w.heap.size; omega) ((hm.block D (Array.getElem?_eq_some_iff.1 b6).1 (by omega)).trans b6), obz_set (by show D + 1 ≠ w.heap.size; omega) ((hm.block (D + 1) (Array.getElem?_eq_some_iff.1 b7).1 (by omega)).trans b7), ?_⟩
  exact (b8.trans' hm (fun k hk q => by omega)).trans' hms (fun k hk q => by omega)
theorem REnv.turn {w : World} {fb B D n c : Nat} {s : List UInt8} {lo : Obj} {U U' : List (Int × Int)} {W W' : World} {v : Value} (h : REnv w fb B D n c s lo U W) (hb : Blk W w.heap.size #[v] 25) (ho' : OwnR W' (D + 2) v U') (hm : Mod (fun k => D + 2 ≤ k) W W')
    (h1 : w.heap.size + 1 < D) (h2 : fb < D) (h3 : B < D) : REnv w fb B D n c s lo U' W' := by
  obtain ⟨-, b3, b4, b5, b6, b7, b8⟩ := h
  exact ⟨⟨v, hm.blk hb (by omega), ho'⟩, hm.blk b3 (by omega), hm.blk b4 (by omega), b5.mod hm (by omega), (hm.block D (Array.getElem?_eq_some_iff.1 b6).1 (by omega)).trans b6, (hm.block (D + 1) (Array.getElem?_eq_some_iff.1 b7).1 (by omega)).trans b7, b8.trans' hm (fun k hk q => by omega)⟩
theorem OwnR.form {w : World} {base : Nat} {v : Value} {U : List (Int × Int)} (h : OwnR w base v U) : ∃ a c, v = .slice a U.length c ∧ ∀ g, v.ownBlock = some g → base ≤ g := by
  rcases h.2 with ⟨rfl, hn⟩ | ⟨g, cap, cur, rfl, hbg, hg, hnc, hcm, hcs, htake⟩
  · exact ⟨none, 0, by rw [hn], fun g q => by cases q⟩
  · exact ⟨_, cap, rfl, fun g' q => by
      have : g = g' := by simpa [Value.ownBlock] using q
      omega⟩
set_option maxRecDepth 100000 in
set_option maxHeartbeats 8000000 in
theorem bRuns_any (n : Nat) (s : ByteArray) (w : World) (h : FieldOf n s.data.toList) (hn : n ≤ 4096) :
    Calls Tryz.prog 41 #[.int .i64 n, .string s] w fun e w' => ∃ v, e = .returned (.tuple #[v, .int .i64 0]) ∧ OwnR w' w.heap.size v (runsF n s.data.toList) ∧ New w w' := by
  have hlen : s.data.toList.length = s.size := by rw [Array.length_toList]; rfl
  have hl := h.len
  rw [hlen] at hl
  have HOP := hid (fun a W (q : W.cell? ⟨a, 0, none⟩ = some (.string s)) => bopen_one n s a 1 W h hn q (Nat.le_refl _) (by unfold maxLen; omega))
  have HNL := hid (numsL_all h)
  have HG := hid (fun T (q : ∀ i ∈ T, i < 8 * s.data.toList.length) => runs_good (n := 8 * s.data.toList.length) T q)
  have hss : s.size ≤ 512 := by omega
  clear hl h
  obtain ⟨i0, hi0, hz0, hz1, hz2⟩ := info_parts info_runB
  refine (callsIn_wide (n := 9)).1 ?_
  refine callsIn_of_wp_marks Tryz.func41 rfl trivial ?_ rfl
  simp only [Tryz.ntmps41, List.size_toArray, List.length_cons, List.length_nil, Nat.reduceAdd, Nat.reduceSub, Array.replicate_succ, Array.replicate_zero, List.push_toArray, List.append_toArray, List.nil_append, List.cons_append]
  gi_wp2_with fail
  refine ⟨trivial, (callsIn_wide.2 (HOP.out _ _ ((Blk.newAt (by simp)).cellv 0 rfl))).mono ?_⟩
  rintro e w1 ⟨v, rfl, ⟨G, cap, B, cb, rfl, h1, h2, h3, h4, h5, h6, h7⟩, n1⟩
  have N1 : Hid (New w w1) := hid (((((Mod.refl _ w).alloc (.cells #[.slice none 0 0] 25)).alloc (.cells #[.int .i64 0] 28)).alloc (.cells #[.string s] 9) : New w _).trans n1)
  have R1 : Hid (Blk w1 w.heap.size #[.slice none 0 0] 25) := hid (New.blk n1 (((Blk.new _ _ _).alloc _).alloc _))
  have E1 : Hid (Blk w1 (w.heap.size + 1) #[.int .i64 0] 28) := hid (New.blk n1 ((Blk.newAt (by simp)).alloc _))
  have HBY := hid h6
  have hB1 : w.heap.size + 2 ≤ B := by simp at h7; omega
  have hF1 : w.heap.size + 2 ≤ w1.heap.size := by have := E1.out.lt; omega
  unfold maxLen at h2
  clear h6 h7 n1
  gi_wp2_with fail
  refine ⟨trivial, (callsIn_wide.2 (all_any _ _ _)).mono ?_⟩
  rintro e w2 ⟨rfl, hf2, n2⟩
  have HF2 := hid hf2
  have HB2 := hid (HBY.out.new n2)
  have R2 := hid (New.blk n2 R1.out)
  have E2 := hid (New.blk n2 E1.out)
  have N2 := hid (N1.out.trans n2)
  obtain ⟨fb, hfb⟩ : ∃ fb, fb = w1.heap.size := ⟨_, rfl⟩
  rw [← hfb] at HF2 hF1 ⊢
  have hD1 : w.heap.size + 1 < w2.heap.size := E2.out.lt
  have hD2 : fb < w2.heap.size := HF2.out.lt
  have hD3 : B < w2.heap.size := HB2.out.lt
  clear hf2 n2 HBY R1 E1 N1 hfb h3 h4 h5 HOP
  gi_wp2_with fail
  refine wpIn_range rfl (by omega) (gf := 148) (lb := #[.pointer (some ⟨fb, 0, none⟩)]) rfl trivial (enters_of Tryz.func148 (by kernel_rfl) rfl) ?_
  intro fn _ rec hrec
  have hl0 : ((w2.alloc (.deferred (some []))).alloc (.loop (rec .ready none))).heap[w2.heap.size + 1]? = some (.loop (rec .ready none)) := by
    have := World.alloc_heap_new (w := w2.alloc (.deferred (some []))) (o := .loop (rec .ready none))
    rwa [World.size_alloc] at this
  have hd0 : ((w2.alloc (.deferred (some []))).alloc (.loop (rec .ready none))).heap[w2.heap.size]? = some (.deferred (some [])) := (Below.heap_alloc _ _ _ (by simp)).trans (World.alloc_heap_new w2 _)
  have hst : New w2 ((w2.alloc (.deferred (some []))).alloc (.loop (rec .ready none))) := ((Mod.refl _ _).alloc _).alloc _
  obtain ⟨D, hD⟩ : ∃ D, D = w2.heap.size := ⟨_, rfl⟩
  rw [← hlen] at HF2
  have henv : REnv w fb B D n cb s.data.toList (.loop (rec .ready none)) (runsN []) ((w2.alloc (.deferred (some []))).alloc (.loop (rec .ready none))) :=
    ⟨⟨_, New.blk hst R2.out, OwnR.nil _ _⟩, New.blk hst E2.out, New.blk hst HF2.out, HB2.out.new hst, by rw [hD]; exact hd0, by rw [hD]; exact hl0, Mod.trans N2.out hst⟩
  rw [← hD] at hrec hD1 hD2 hD3 ⊢
  generalize (w2.alloc (.deferred (some []))).alloc (.loop (rec .ready none)) = W1 at *
  clear hl0 hd0 hst hD HF2 HB2 R2 E2 N2 w2
  refine (all_iter s.data.toList n cb B fb (D + 1) 8 (by omega) (fun T W => (∀ i ∈ T, i < 8 * s.data.toList.length) ∧ REnv w fb B D n cb s.data.toList (.loop (rec .ready none)) (runsN T) W) ?hI ?hY _ ⟨by simp, henv⟩ (by omega)).mono ?fin
  case hI => exact fun T W e => ⟨e.2.fld, e.2.by'⟩
  case fin =>
    rintro e W ⟨hv, hTi, hA⟩
    refine ⟨hv, hA.hD, .inl ⟨hA.hL, ?_⟩⟩
    refine name_worldZ (p := fun W => Exit.inBlock _ _ _ _ W) (fun W5 hW5 => ?_)
    have h5 : REnv w fb B D n cb s.data.toList (.loop (rec .exhausted none)) (runsF n s.data.toList) W5 := by
      rw [hW5, show runsF n s.data.toList = runsN (numsL (8 * s.data.toList.length) s.data.toList) by rw [HNL.out]; rfl]
      exact hA.put hD1 hD2 hD3
    obtain ⟨⟨v, b1, b2⟩, b3, -, -, b6, -, b8⟩ := h5
    have HB := hid b1; have HE := hid b3; have HO := hid b2; have HD := hid b6; have HN := hid b8
    obtain ⟨a, c, hvf, -⟩ := b2.form
    have x0 := b1.cellv 0 rfl; have xl := b1.lt; have xf := b1.frz 0
    have y0 := b3.cellv 0 rfl; have yl := b3.lt; have yf := b3.frz 0
    clear hA hW5 b1 b2 b3 b6 b8 hv hTi henv hrec HG HNL
    subst hvf
    gi_wp2
    refine name_worldZ (p := fun W => bodyPostM _ _ _ _ _ _ _ W) (fun W6 hW6 => ?_)
    have B6 : Blk W6 w.heap.size #[.slice a (runsF n s.data.toList).length c] 25 := by
      rw [hW6]
      apply Blk.row
      · repeat (first | with_reducible exact HB.out | (with_reducible apply Blk.newAt; (simp; done)) | with_reducible apply Blk.alloc | with_reducible apply Blk.drew | with_reducible apply Blk.drewN | with_reducible apply Blk.set | (with_reducible apply Blk.other; · first | (simp; done) | (simp; omega) | omega) | (with_reducible apply Blk.putObj; · first | (simp; done) | (simp; omega) | omega))
      · rfl
    have E6 : Blk W6 (w.heap.size + 1) #[.int .i64 0] 28 := by
      rw [hW6]
      apply Blk.row
      · repeat (first | with_reducible exact HE.out | (with_reducible apply Blk.newAt; (simp; done)) | with_reducible apply Blk.alloc | with_reducible apply Blk.drew | with_reducible apply Blk.drewN | with_reducible apply Blk.set | (with_reducible apply Blk.other; · first | (simp; done) | (simp; omega) | omega) | (with_reducible apply Blk.putObj; · first | (simp; done) | (simp; omega) | omega))
      · rfl
    have D6 : W6.heap[D]? = some (.deferred (some [])) := by
      rw [hW6]
      exact obz_set (by show D ≠ w.heap.size + 1; omega) (obz_set (by show D ≠ w.heap.size; omega) HD.out)
    have M6 : Mod (fun k => k = w.heap.size ∨ k = w.heap.size + 1) W5 W6 := by
      rw [hW6]
      exact Mod.set (Mod.set (Mod.refl _ _) _ _ (.inl (.inl rfl))) _ _ (.inl (.inr rfl))
    have O6 := HO.out.mod M6 (fun k hk _ q => by omega)
    have N6 : New w W6 := HN.out.trans' M6 (fun k hk q => by omega)
    clear hW6
    have B7 := Blk.putObj (r := D) (o := .deferred none) (by omega) B6
    have E7 := Blk.putObj (r := D) (o := .deferred none) (by omega) E6
    have O7 := O6.mod (S := fun k => k = D) (Mod.putObj (Mod.refl _ _) D (.deferred none) (.inl rfl)) (fun k hk _ q => by omega)
    have N7 : New w (W6.putObj D (.deferred none)) := Mod.putObj N6 _ _ (.inr (by omega))
    refine ⟨by simp, .inl ⟨_, _, rfl, run_takeDeferred D6, ?_⟩⟩
    refine ⟨by simp, .inr ⟨fun _ => by omega, _, _, 98, #[.pointer (some ⟨w.heap.size + 1, 0, none⟩)], rfl, by simp [go_sem], fun g _ => trivial, ?_⟩⟩
    refine CallsDIn.mono' (bcaught_idleW ⟨w.heap.size + 1, 0, none⟩ _) ?_
    rintro e u' w9 ⟨rfl, rfl, rfl⟩
    have d0 := B7.cellv 0 rfl; have d1 := E7.cellv 0 rfl
    refine ⟨.tuple #[.slice a (runsF n s.data.toList).length c, .int .i64 0], by simp [results, Tryz.results41, go_sem, d0, d1], ⟨_, rfl, O7.base (by omega), N7⟩⟩
  case hY =>
    intro T i W hA hi hTl
    obtain ⟨hTi, hA⟩ := hA
    obtain ⟨hG1, hG2⟩ := HG.out T hTi
    have HTI := hid (show ∀ j ∈ T ++ [i], j < 8 * s.data.toList.length from fun j hj => by
      rcases List.mem_append.1 hj with q | q
      · exact hTi j q
      · simp only [List.mem_singleton] at q; omega)
    clear hTi
    refine yieldAt_round hrec hA.hL rfl trivial ?_
    gi_wp2
    refine ⟨hA.hL, ?_⟩
    refine name_worldZ (p := fun W => Code.wpIn _ _ _ _ _ _ W) (fun W3 hW3 => ?_)
    have h3 : REnv w fb B D n cb s.data.toList (.loop (rec .busy none)) (runsN T) W3 := by rw [hW3]; exact hA.put hD1 hD2 hD3
    have H3 := hid h3
    obtain ⟨⟨v, b1, b2⟩, -, -, -, -, -, -⟩ := h3
    have HB := hid b1; have HO := hid b2
    obtain ⟨a, c, hv, hvb⟩ := b2.form
    have x0 := b1.cellv 0 rfl; have xl := b1.lt; have xf := b1.frz 0
    have HVB := hid hvb
    have hDs : D + 2 ≤ W3.heap.size := by have := (Array.getElem?_eq_some_iff.1 H3.out.hL).1; omega
    clear hA hW3 b1 b2 hvb
    rcases snoc_form (runsN T) with e | ⟨A, r, e⟩
    · have hnx : runsN (T ++ [i]) = [] ++ [((i : Int), 1)] := by rw [runsN_snoc, e, runPut_nil]; rfl
      rw [e] at HO H3
      rw [e, List.length_nil] at hv
      subst hv
      have HNX := hid hnx
      clear hnx e
      gi_wp2
      refine wp_region_round (fun w' => True) (by kernel_rfl) (noDefer_spec (by kernel_rfl)) (by rintro ⟨a, w, q⟩; exact q) trivial (fun hHeld => ?_)
      refine tk (v := ?_) 0 ?_ ?_
      rotate_left
      · intro w hSw
        (try dsimp only at hSw)
        first | (go_simp; done) | (go_simp; with_reducible rfl) | with_reducible rfl
      simp only [Act.put, List.setIfInBounds_toArray, List.set_cons_zero, List.set_cons_succ]
      refine tk (v := ?_) 1 ?_ ?_
      rotate_left
      · intro w hSw
        (try dsimp only at hSw)
        first | (go_simp; done) | (go_simp; with_reducible rfl) | with_reducible rfl
      simp only [Act.put, List.setIfInBounds_toArray, List.set_cons_zero, List.set_cons_succ]
      refine tk (v := ?_) 2 ?_ ?_
      rotate_left
      · intro w hSw
        (try dsimp only at hSw)
        first | (go_simp; done) | (go_simp; with_reducible rfl) | with_reducible rfl
      simp only [Act.put, List.setIfInBounds_toArray, List.set_cons_zero, List.set_cons_succ]
      refine sk 3 ?_
      simp only [Act.put, List.setIfInBounds_toArray, List.set_cons_zero, List.set_cons_succ]
      refine sk 4 ?_
      simp only [Act.put, List.setIfInBounds_toArray, List.set_cons_zero, List.set_cons_succ]
      refine sk 5 ?_
      simp only [Act.put, List.setIfInBounds_toArray, List.set_cons_zero, List.set_cons_succ]
      refine sk 6 ?_
      simp only [Act.put, List.setIfInBounds_toArray, List.set_cons_zero, List.set_cons_succ]
      refine sk 7 ?_
      simp only [Act.put, List.setIfInBounds_toArray, List.set_cons_zero, List.set_cons_succ]
      refine sk 8 ?_
      simp only [Act.put, List.setIfInBounds_toArray, List.set_cons_zero, List.set_cons_succ]
      refine sk 9 ?_
      simp only [Act.put, List.setIfInBounds_toArray, List.set_cons_zero, List.set_cons_succ]
      refine sk 10 ?_
      simp only [Act.put, List.setIfInBounds_toArray, List.set_cons_zero, List.set_cons_succ]
      refine sk 11 ?_
      simp only [Act.put, List.setIfInBounds_toArray, List.set_cons_zero, List.set_cons_succ]
      refine sk 12 ?_
      simp only [Act.put, List.setIfInBounds_toArray, List.set_cons_zero, List.set_cons_succ]
      refine sk 13 ?_
      simp only [Act.put, List.setIfInBounds_toArray, List.set_cons_zero, List.set_cons_succ]
      refine sk 14 ?_
      simp only [Act.put, List.setIfInBounds_toArray, List.set_cons_zero, List.set_cons_succ]
      refine sk 15 ?_
      simp only [Act.put, List.setIfInBounds_toArray, List.set_cons_zero, List.set_cons_succ]
      refine tk (v := ?_) 16 ?_ ?_
      rotate_left
      · intro w hSw
        (try dsimp only at hSw)
        first | (go_simp; done) | (go_simp; with_reducible rfl) | with_reducible rfl
      simp only [Act.put, List.setIfInBounds_toArray, List.set_cons_zero, List.set_cons_succ]
      refine wpAnyH_done (by kernel_rfl) ?_ _
      have hL4 : (([] : List (Int × Int)) ++ [((i : Int), (1 : Int))]).length = 1 := by simp
      gi_wp2_with (gi_at_builtin; refine wpListIn_append_own _ rfl _ _ 25 rfl (D + 2) 66 i0 _ 2 16 Tryz.underlying25 hi0 hz0 hz1 hz2 rfl (by decide) _ (0) (runRow (([] : List (Int × Int)))) rfl ?ow ⟨W3.heap.size, 0, none⟩ 1 1 [.int .i64 i, .int .i64 1] rfl rfl ?hn ?h1 ?h63 ?hby ?hba ?_)
      case ow =>
        have h := HO.out.new (((Mod.refl _ W3).alloc (.cells #[.int .i64 i, .int .i64 1] 66)).drew)
        unfold OwnR at h
        first
          | exact h
          | (rw [List.length_append] at h; exact h)
      case hn => exact fun j u hj => two_new W3 _ _ _ rfl j u hj
      case h1 => intro u hu; simp at hu; rcases hu with rfl | rfl <;> rfl
      case h63 => unfold maxLen; omega
      case hby => omega
      case hba => simp; omega
      intro o4 w4 r4 g4 _
      have O4 : Hid (OwnR w4 (D + 2) o4 (([] : List (Int × Int)) ++ [((i : Int), 1)])) := hid (by
        unfold OwnR
        rw [hL4, runRow_app]
        exact r4)
      have M4 : Hid (Mod (fun k => D + 2 ≤ k) W3 w4) := hid (Mod.trans (((Mod.refl _ W3).alloc _).drew) ⟨g4.os, g4.tape, g4.output, g4.size, fun k hk hx => g4.block k hk (fun q => hx (HVB.out k q.symm))⟩)
      clear r4 g4 x0 xl xf
      have B4 := hid (M4.out.blk HB.out (by omega))
      have x0 := B4.out.cellv 0 rfl; have xl := B4.out.lt; have xf := B4.out.frz 0
      have E6 := hid (H3.out.grow HB.out HO.out O4.out M4.out hD1 hD2 hD3 hF1 hB1)
      rw [← HNX.out] at E6
      obtain ⟨a4, c4, hf4, -⟩ := O4.out.form
      rw [hL4] at hf4
      subst hf4
      clear O4
      gi_wp2
      exact ⟨E6.out.hL, rfl, by simpa using HTI.out, E6.out.put hD1 hD2 hD3⟩
    · have hUL : (runsN T).length = A.length + 1 := by rw [e]; simp
      have hAl : A.length ≤ 4096 := by omega
      rw [e] at HO H3
      obtain ⟨g, cap2, hv2, hg1, hg2, -, hgf, hcp1, hcp2, hcc⟩ := HO.out.at' (by simp)
      rw [hUL] at hv
      rw [hv] at hv2
      simp only [List.length_append, List.length_singleton] at hv2 hcp1
      injection hv2 with q1 q2 q3
      subst q1 q3
      have hgr := hG1 r (by rw [e]; simp)
      obtain ⟨k0, k1⟩ := hcc A.length (by simp)
      rw [List.getElem_append_right (Nat.le_refl _)] at k0 k1
      simp only [Nat.sub_self, List.getElem_cons_zero] at k0 k1
      subst hv
      obtain ⟨gr0, gr1, gr2⟩ := hgr
      have hm0 : ((A.length : Int) + 1) - 1 = (A.length : Int) := by omega
      unfold maxLen at hcp2
      have hlA : A.length < A.length + 1 := Nat.lt_succ_self _
      have hlI : (A.length : Int) < (A.length : Int) + 1 := by omega
      have hlJ : (A.length : Int) < ((A.length + 1 : Nat) : Int) := by omega
      have hl2 : ((A.length : Int)).toNat = A.length := by omega
      clear hcc
      by_cases hon : r.1 + r.2 = (i : Int)
      · have HNX := hid (show runsN (T ++ [i]) = A ++ [(r.1, r.2 + 1)] by rw [runsN_snoc, e, runPut_on _ _ _ hon])
        have hb1 : (r.1 + r.2 == (i : Int)) = true := by rw [beq_iff_eq]; exact hon
        have hwi : IntKind.i64.wrap (i : Int) = (i : Int) := by rw [IntKind.wrap_i64]; omega
        clear e
        gi_wp2
        refine wp_region_round (fun w' => w'.cell? ⟨w.heap.size, 0, none⟩ = some (.slice (some ⟨g, 0, none⟩) (A.length + 1) c) ∧ w'.cell? ⟨g, A.length * 2, none⟩ = some (.int .i64 r.1) ∧ w'.cell? ⟨g, A.length * 2 + 1, none⟩ = some (.int .i64 r.2)) (by kernel_rfl) (noDefer_spec (by kernel_rfl)) (by rintro ⟨a, w, q⟩; exact q) ⟨x0, k0, k1⟩ (fun hHeld => ?_)
        refine tk (v := ?_) 0 ?_ ?_
        rotate_left
        · intro w hSw
          (try dsimp only at hSw)
          first | (go_simp; done) | (go_simp; with_reducible rfl) | with_reducible rfl
        simp only [Act.put, List.setIfInBounds_toArray, List.set_cons_zero, List.set_cons_succ]
        refine tk (v := ?_) 1 ?_ ?_
        rotate_left
        · intro w hSw
          (try dsimp only at hSw)
          first | (go_simp; done) | (go_simp; with_reducible rfl) | with_reducible rfl
        simp only [Act.put, List.setIfInBounds_toArray, List.set_cons_zero, List.set_cons_succ]
        refine tk (v := ?_) 2 ?_ ?_
        rotate_left
        · intro w hSw
          (try dsimp only at hSw)
          first | (go_simp; done) | (go_simp; with_reducible rfl) | with_reducible rfl
        simp only [Act.put, List.setIfInBounds_toArray, List.set_cons_zero, List.set_cons_succ]
        refine tk (v := ?_) 3 ?_ ?_
        rotate_left
        · intro w hSw
          (try dsimp only at hSw)
          first | (go_simp; done) | (go_simp; with_reducible rfl) | with_reducible rfl
        simp only [Act.put, List.setIfInBounds_toArray, List.set_cons_zero, List.set_cons_succ]
        refine tk (v := ?_) 4 ?_ ?_
        rotate_left
        · intro w hSw
          (try dsimp only at hSw)
          first | (go_simp; done) | (go_simp; with_reducible rfl) | with_reducible rfl
        simp only [Act.put, List.setIfInBounds_toArray, List.set_cons_zero, List.set_cons_succ]
        refine tk (v := ?_) 5 ?_ ?_
        rotate_left
        · intro w hSw
          (try dsimp only at hSw)
          first | (go_simp; done) | (go_simp; with_reducible rfl) | with_reducible rfl
        simp only [Act.put, List.setIfInBounds_toArray, List.set_cons_zero, List.set_cons_succ]
        refine tk (v := ?_) 6 ?_ ?_
        rotate_left
        · intro w hSw
          (try dsimp only at hSw)
          first | (go_simp; done) | (go_simp; with_reducible rfl) | with_reducible rfl
        simp only [Act.put, List.setIfInBounds_toArray, List.set_cons_zero, List.set_cons_succ]
        refine tk (v := ?_) 7 ?_ ?_
        rotate_left
        · intro w hSw
          (try dsimp only at hSw)
          first | (go_simp; done) | (go_simp; with_reducible rfl) | with_reducible rfl
        simp only [Act.put, List.setIfInBounds_toArray, List.set_cons_zero, List.set_cons_succ]
        refine tk (v := ?_) 8 ?_ ?_
        rotate_left
        · intro w hSw
          (try dsimp only at hSw)
          first | (go_simp; done) | (go_simp; with_reducible rfl) | with_reducible rfl
        simp only [Act.put, List.setIfInBounds_toArray, List.set_cons_zero, List.set_cons_succ]
        refine tk (v := ?_) 9 ?_ ?_
        rotate_left
        · intro w hSw
          (try dsimp only at hSw)
          first | (go_simp; done) | (go_simp; with_reducible rfl) | with_reducible rfl
        simp only [Act.put, List.setIfInBounds_toArray, List.set_cons_zero, List.set_cons_succ]
        refine tk (v := ?_) 10 ?_ ?_
        rotate_left
        · intro w hSw
          (try dsimp only at hSw)
          first | (go_simp; done) | (go_simp; with_reducible rfl) | with_reducible rfl
        simp only [Act.put, List.setIfInBounds_toArray, List.set_cons_zero, List.set_cons_succ]
        refine tk (v := ?_) 11 ?_ ?_
        rotate_left
        · intro w hSw
          (try dsimp only at hSw)
          first | (go_simp; done) | (go_simp; with_reducible rfl) | with_reducible rfl
        simp only [Act.put, List.setIfInBounds_toArray, List.set_cons_zero, List.set_cons_succ]
        refine tk (v := ?_) 12 ?_ ?_
        rotate_left
        · intro w hSw
          (try dsimp only at hSw)
          first | (go_simp; done) | (go_simp; with_reducible rfl) | with_reducible rfl
        simp only [Act.put, List.setIfInBounds_toArray, List.set_cons_zero, List.set_cons_succ]
        refine tk (v := ?_) 13 ?_ ?_
        rotate_left
        · intro w hSw
          (try dsimp only at hSw)
          first | (go_simp; done) | (go_simp; with_reducible rfl) | with_reducible rfl
        simp only [Act.put, List.setIfInBounds_toArray, List.set_cons_zero, List.set_cons_succ]
        refine tk (v := ?_) 14 ?_ ?_
        rotate_left
        · intro w hSw
          (try dsimp only at hSw)
          first | (go_simp; done) | (go_simp; with_reducible rfl) | with_reducible rfl
        simp only [Act.put, List.setIfInBounds_toArray, List.set_cons_zero, List.set_cons_succ]
        refine tk (v := ?_) 15 ?_ ?_
        rotate_left
        · intro w hSw
          (try dsimp only at hSw)
          first | (go_simp; done) | (go_simp; with_reducible rfl) | with_reducible rfl
        simp only [Act.put, List.setIfInBounds_toArray, List.set_cons_zero, List.set_cons_succ]
        refine tk (v := ?_) 16 ?_ ?_
        rotate_left
        · intro w hSw
          (try dsimp only at hSw)
          first | (go_simp; done) | (go_simp; with_reducible rfl) | with_reducible rfl
        simp only [Act.put, List.setIfInBounds_toArray, List.set_cons_zero, List.set_cons_succ]
        refine wpAnyH_done (by kernel_rfl) ?_ _
        gi_wp2
        have E6 := H3.out.turn HB.out ((HO.out.put (r.2 + 1)).new ((Mod.refl _ _).drew)) (((Mod.refl (fun k => D + 2 ≤ k) W3).set ⟨g, A.length * 2 + 1, none⟩ (.int .i64 (r.2 + 1)) (.inl hg1)).drew) hD1 hD2 hD3
        rw [← HNX.out] at E6
        exact ⟨E6.hL, rfl, by simpa using HTI.out, E6.put hD1 hD2 hD3⟩
      · have hwr : IntKind.i64.wrap (r.1 + r.2) = r.1 + r.2 := by rw [IntKind.wrap_i64]; omega
        have HNX := hid (show runsN (T ++ [i]) = A ++ [r] ++ [((i : Int), 1)] by rw [runsN_snoc, e, runPut_new _ _ _ hon])
        have hb1 : (r.1 + r.2 == (i : Int)) = false := by rw [beq_eq_false_iff_ne]; exact hon
        clear e
        gi_wp2
        refine wp_region_round (fun w' => w'.cell? ⟨w.heap.size, 0, none⟩ = some (.slice (some ⟨g, 0, none⟩) (A.length + 1) c) ∧ w'.cell? ⟨g, A.length * 2, none⟩ = some (.int .i64 r.1) ∧ w'.cell? ⟨g, A.length * 2 + 1, none⟩ = some (.int .i64 r.2)) (by kernel_rfl) (noDefer_spec (by kernel_rfl)) (by rintro ⟨a, w, q⟩; exact q) ⟨x0, k0, k1⟩ (fun hHeld => ?_)
        refine tk (v := ?_) 0 ?_ ?_
        rotate_left
        · intro w hSw
          (try dsimp only at hSw)
          first | (go_simp; done) | (go_simp; with_reducible rfl) | with_reducible rfl
        simp only [Act.put, List.setIfInBounds_toArray, List.set_cons_zero, List.set_cons_succ]
        refine tk (v := ?_) 1 ?_ ?_
        rotate_left
        · intro w hSw
          (try dsimp only at hSw)
          first | (go_simp; done) | (go_simp; with_reducible rfl) | with_reducible rfl
        simp only [Act.put, List.setIfInBounds_toArray, List.set_cons_zero, List.set_cons_succ]
        refine tk (v := ?_) 2 ?_ ?_
        rotate_left
        · intro w hSw
          (try dsimp only at hSw)
          first | (go_simp; done) | (go_simp; with_reducible rfl) | with_reducible rfl
        simp only [Act.put, List.setIfInBounds_toArray, List.set_cons_zero, List.set_cons_succ]
        refine tk (v := ?_) 3 ?_ ?_
        rotate_left
        · intro w hSw
          (try dsimp only at hSw)
          first | (go_simp; done) | (go_simp; with_reducible rfl) | with_reducible rfl
        simp only [Act.put, List.setIfInBounds_toArray, List.set_cons_zero, List.set_cons_succ]
        refine tk (v := ?_) 4 ?_ ?_
        rotate_left
        · intro w hSw
          (try dsimp only at hSw)
          first | (go_simp; done) | (go_simp; with_reducible rfl) | with_reducible rfl
        simp only [Act.put, List.setIfInBounds_toArray, List.set_cons_zero, List.set_cons_succ]
        refine tk (v := ?_) 5 ?_ ?_
        rotate_left
        · intro w hSw
          (try dsimp only at hSw)
          first | (go_simp; done) | (go_simp; with_reducible rfl) | with_reducible rfl
        simp only [Act.put, List.setIfInBounds_toArray, List.set_cons_zero, List.set_cons_succ]
        refine tk (v := ?_) 6 ?_ ?_
        rotate_left
        · intro w hSw
          (try dsimp only at hSw)
          first | (go_simp; done) | (go_simp; with_reducible rfl) | with_reducible rfl
        simp only [Act.put, List.setIfInBounds_toArray, List.set_cons_zero, List.set_cons_succ]
        refine tk (v := ?_) 7 ?_ ?_
        rotate_left
        · intro w hSw
          (try dsimp only at hSw)
          first | (go_simp; done) | (go_simp; with_reducible rfl) | with_reducible rfl
        simp only [Act.put, List.setIfInBounds_toArray, List.set_cons_zero, List.set_cons_succ]
        refine tk (v := ?_) 8 ?_ ?_
        rotate_left
        · intro w hSw
          (try dsimp only at hSw)
          first | (go_simp; done) | (go_simp; with_reducible rfl) | with_reducible rfl
        simp only [Act.put, List.setIfInBounds_toArray, List.set_cons_zero, List.set_cons_succ]
        refine tk (v := ?_) 9 ?_ ?_
        rotate_left
        · intro w hSw
          (try dsimp only at hSw)
          first | (go_simp; done) | (go_simp; with_reducible rfl) | with_reducible rfl
        simp only [Act.put, List.setIfInBounds_toArray, List.set_cons_zero, List.set_cons_succ]
        refine tk (v := ?_) 10 ?_ ?_
        rotate_left
        · intro w hSw
          (try dsimp only at hSw)
          first | (go_simp; done) | (go_simp; with_reducible rfl) | with_reducible rfl
        simp only [Act.put, List.setIfInBounds_toArray, List.set_cons_zero, List.set_cons_succ]
        refine tk (v := ?_) 11 ?_ ?_
        rotate_left
        · intro w hSw
          (try dsimp only at hSw)
          first | (go_simp; done) | (go_simp; with_reducible rfl) | with_reducible rfl
        simp only [Act.put, List.setIfInBounds_toArray, List.set_cons_zero, List.set_cons_succ]
        refine tk (v := ?_) 12 ?_ ?_
        rotate_left
        · intro w hSw
          (try dsimp only at hSw)
          first | (go_simp; done) | (go_simp; with_reducible rfl) | with_reducible rfl
        simp only [Act.put, List.setIfInBounds_toArray, List.set_cons_zero, List.set_cons_succ]
        refine tk (v := ?_) 13 ?_ ?_
        rotate_left
        · intro w hSw
          (try dsimp only at hSw)
          first | (go_simp; done) | (go_simp; with_reducible rfl) | with_reducible rfl
        simp only [Act.put, List.setIfInBounds_toArray, List.set_cons_zero, List.set_cons_succ]
        refine tk (v := ?_) 14 ?_ ?_
        rotate_left
        · intro w hSw
          (try dsimp only at hSw)
          first | (go_simp; done) | (go_simp; with_reducible rfl) | with_reducible rfl
        simp only [Act.put, List.setIfInBounds_toArray, List.set_cons_zero, List.set_cons_succ]
        refine tk (v := ?_) 15 ?_ ?_
        rotate_left
        · intro w hSw
          (try dsimp only at hSw)
          first | (go_simp; done) | (go_simp; with_reducible rfl) | with_reducible rfl
        simp only [Act.put, List.setIfInBounds_toArray, List.set_cons_zero, List.set_cons_succ]
        refine tk (v := ?_) 16 ?_ ?_
        rotate_left
        · intro w hSw
          (try dsimp only at hSw)
          first | (go_simp; done) | (go_simp; with_reducible rfl) | with_reducible rfl
        simp only [Act.put, List.setIfInBounds_toArray, List.set_cons_zero, List.set_cons_succ]
        refine wpAnyH_done (by kernel_rfl) ?_ _
        have hL4 : ((A ++ [r]) ++ [((i : Int), (1 : Int))]).length = (A.length + 2) := by simp
        gi_wp2_with (gi_at_builtin; refine wpListIn_append_own _ rfl _ _ 25 rfl (D + 2) 66 i0 _ 2 16 Tryz.underlying25 hi0 hz0 hz1 hz2 rfl (by decide) _ ((A.length + 1)) (runRow ((A ++ [r]))) rfl ?ow ⟨W3.heap.size, 0, none⟩ 1 1 [.int .i64 i, .int .i64 1] rfl rfl ?hn ?h1 ?h63 ?hby ?hba ?_)
        case ow =>
          have h := HO.out.new (((Mod.refl _ W3).alloc (.cells #[.int .i64 i, .int .i64 1] 66)).drew)
          unfold OwnR at h
          first
            | exact h
            | (rw [List.length_append] at h; exact h)
        case hn => exact fun j u hj => two_new W3 _ _ _ rfl j u hj
        case h1 => intro u hu; simp at hu; rcases hu with rfl | rfl <;> rfl
        case h63 => unfold maxLen; omega
        case hby => omega
        case hba => simp; omega
        intro o4 w4 r4 g4 _
        have O4 : Hid (OwnR w4 (D + 2) o4 ((A ++ [r]) ++ [((i : Int), 1)])) := hid (by
          unfold OwnR
          rw [hL4, runRow_app]
          exact r4)
        have M4 : Hid (Mod (fun k => D + 2 ≤ k) W3 w4) := hid (Mod.trans (((Mod.refl _ W3).alloc _).drew) ⟨g4.os, g4.tape, g4.output, g4.size, fun k hk hx => g4.block k hk (fun q => hx (HVB.out k q.symm))⟩)
        clear r4 g4 x0 xl xf
        have B4 := hid (M4.out.blk HB.out (by omega))
        have x0 := B4.out.cellv 0 rfl; have xl := B4.out.lt; have xf := B4.out.frz 0
        have E6 := hid (H3.out.grow HB.out HO.out O4.out M4.out hD1 hD2 hD3 hF1 hB1)
        rw [← HNX.out] at E6
        obtain ⟨a4, c4, hf4, -⟩ := O4.out.form
        rw [hL4] at hf4
        subst hf4
        clear O4
        gi_wp2
        exact ⟨E6.out.hL, rfl, by simpa using HTI.out, E6.out.put hD1 hD2 hD3⟩
end Go.Proofs.YtbgmkplpolgebaaGreatDoor
