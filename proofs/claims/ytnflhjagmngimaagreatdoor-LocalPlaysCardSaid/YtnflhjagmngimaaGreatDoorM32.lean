/-
  Several texts in one, in their build order. The walk of Drop (the reference's crier). Conditions: the crier lies as told.
-/
import Derived.Test.YtnflhjagmngimaaGreatDoorM31
import Derived.Deep.Upon
namespace Go.Proofs.YtnflhjagmngimaaGreatDoor
set_option linter.unusedSimpArgs false
set_option linter.unusedVariables false
open Go.RowKit Go.Shelf

def RcV.dropE (r : RcV) (k : ByteArray) : Int := if k.size = 20 then (if idxP r.all k < 0 then 8 else 0) else 1
def RcV.dropC (r : RcV) (k : ByteArray) : RcV := { r with all := r.all.eraseIdx (idxP r.all k).toNat }
set_option maxRecDepth 100000 in
set_option maxHeartbeats 4000000 in
theorem rDrop_no (R : Nat) (aa ah : Option Addr) (ca ch : Nat) (r : RcV) (n : ByteArray) (w : World) (h : RcAt w R aa ah ca ch r) (hl : r.all.length ≤ 200) (hs : n.size ≤ maxLen) (hno : r.dropE n ≠ 0) :
    Calls Tryz.prog 21 #[.pointer (some ⟨R, 0, none⟩), .string n] w fun e w' => e = .returned (.int .i64 (r.dropE n)) ∧ New w w' := by
  have HN := hid (rname_any n w hs)
  have HF := hid (find_any R aa ah ca ch r n w h hl)
  unfold RcV.dropE at hno ⊢
  obtain ⟨I, hI⟩ : ∃ I, I = idxP r.all n := ⟨_, rfl⟩
  rw [← hI] at HF hno ⊢
  clear h hI
  by_cases g : n.size = 20
  · rw [if_pos g] at hno ⊢
    rw [decide_eq_true g] at HN
    clear g
    by_cases g2 : I < 0
    · rw [if_pos g2]
      clear hno
      go_enter Tryz.func21, Tryz.ntmps21
      go_wp2_with (first | (go_at_call 55; refine HN.out.mono ?_; rintro e w1 ⟨rfl, rfl⟩) | (go_at_call 56; refine HF.out.mono ?_; rintro e w2 ⟨rfl, n2⟩))
      go_ret
      exact ⟨rfl, n2⟩
    · rw [if_neg g2] at hno
      exact absurd rfl hno
  · rw [if_neg g] at hno ⊢
    rw [decide_eq_false g] at HN
    clear g hno
    go_enter Tryz.func21, Tryz.ntmps21
    go_wp2_with (go_at_call 55; refine HN.out.mono ?_; rintro e w1 ⟨rfl, rfl⟩)
    go_ret
    exact ⟨rfl, Mod.refl _ _⟩
/-- What is asked behind a Drop that is heeded. -/
def RcDrop (R : Nat) (aa ah : Option Addr) (ch : Nat) (r : RcV) (n : ByteArray) (w : World) (e : Ending) (w' : World) : Prop :=
  ∃ (a : Option Addr) (c : Nat), e = .returned (.int .i64 0) ∧ RcAt w' R a ah c ch (r.dropC n) ∧ Mod (· = R) w w' ∧ (a = aa ∨ ∀ x, a = some x → w.heap.size ≤ x.block)
theorem RcDrop.of {R : Nat} {aa ah a : Option Addr} {ca ch c i : Nat} {r : RcV} {n : ByteArray} {w w3 : World} (h3 : RcAt w3 R aa ah ca ch r) (hn : New w w3) (hi : idxP r.all n = i) (hil : i < r.all.length)
    (hp : PairAt w3 (R + 1) 92 a c (r.all.take i ++ r.all.drop (i + 1))) (ha : a = aa ∨ ∀ x, a = some x → w.heap.size ≤ x.block) : RcDrop R aa ah ch r n w (.returned (.int .i64 0)) (w3.setCell ⟨R, 3, none⟩ (.slice a (i + (r.all.length - (i + 1))) c)) := by
  have e : r.all.eraseIdx (idxP r.all n).toNat = r.all.take i ++ r.all.drop (i + 1) := by rw [hi, Int.toNat_natCast, List.eraseIdx_eq_take_drop_succ]
  have hz : (r.all.take i ++ r.all.drop (i + 1)).length = i + (r.all.length - (i + 1)) := by simp; omega
  have hm : Mod (fun k => k = R) w3 (w3.setCell ⟨R, 3, none⟩ (.slice a (i + (r.all.length - (i + 1))) c)) := Mod.set (Mod.refl _ _) _ _ (.inl rfl)
  refine ⟨a, c, rfl, ⟨?_, ?_, ?_⟩, (New.mod hn).trans hm, ha⟩
  · refine (h3.row.set 3 _).row ?_
    show _ = rcRow a ah c ch { r with all := r.all.eraseIdx (idxP r.all n).toNat }
    rw [e]
    simp only [rcRow, hz]
    simp
  · show PairAt _ _ _ _ _ (r.all.eraseIdx (idxP r.all n).toNat)
    rw [e]
    exact hp.mod hm (fun x hx => by have := (hp.blk hx).1; omega)
  · refine ownsP_mod h3.heard hm (fun g hg => ?_)
    cases ah with
    | none => cases hg
    | some x =>
      injection hg with hg
      have := (h3.hears.blk rfl).1
      omega
theorem slice3_run {g n cap i : Nat} (h1 : i ≤ cap) (w : World) : (Instr.slice 86 (.slice (some ⟨g, 0, none⟩) n cap) none (some (.int .i64 i)) (some (.int .i64 i))).run Tryz.prog w = .ok (.slice (some ⟨g, 0, none⟩) i i) w := by
  have h2 : (sizeOf 92).run Tryz.prog w = .ok 2 w := by kernel_rfl
  have e0 : (⟨g, 0, none⟩ : Addr).add 0 = ⟨g, 0, none⟩ := addP g 0 0
  have hc : (i : Int) ≤ (cap : Int) := by omega
  have hb : (Instr.sliceBounds true n cap none (some (.int .i64 i)) (some (.int .i64 i))).run Tryz.prog w = .ok (0, i, i) w := by
    simp [Instr.sliceBounds, run_sliceBound, hc]
  simp [Instr.slice, run_underlying Tryz.underlying86, hb, h2, e0]
def restAd (g cap i : Nat) : Addr := if cap = i + 1 then ⟨g, 0, none⟩ else ⟨g, (i + 1) * 2, none⟩
theorem slice2_run {g n cap i : Nat} (h1 : i + 1 ≤ n) (h2 : n ≤ cap) (w : World) : (Instr.slice 86 (.slice (some ⟨g, 0, none⟩) n cap) (some (.int .i64 ((i : Int) + 1))) none none).run Tryz.prog w = .ok (.slice (some (restAd g cap i)) (n - (i + 1)) (cap - (i + 1))) w := by
  have h3 : (sizeOf 92).run Tryz.prog w = .ok 2 w := by kernel_rfl
  have hc : (i : Int) + 1 ≤ (n : Int) := by omega
  have ht : ((i : Int) + 1).toNat = i + 1 := by omega
  have hb : (Instr.sliceBounds true n cap (some (.int .i64 ((i : Int) + 1))) none none).run Tryz.prog w = .ok (i + 1, n, cap) w := by
    simp [Instr.sliceBounds, run_sliceBound, hc, ht, show (0 : Int) ≤ (i : Int) + 1 by omega]
  unfold restAd
  by_cases e : cap = i + 1
  · subst e
    simp [Instr.slice, run_underlying Tryz.underlying86, hb, h3]
  · simp [Instr.slice, run_underlying Tryz.underlying86, hb, h3, e, addP]
/-- A list without one: what append does. -/
theorem cut_append {w : World} {base g cap i : Nat} {U : List (ByteArray × Int)} (h : PairAt w base 92 (some ⟨g, 0, none⟩) cap U) (hi : i < U.length) (hl : U.length ≤ 200) (hb : base ≤ w.heap.size) :
    ∃ a c w3, (Builtin.append_ #[86, 86] 86 #[.slice (some ⟨g, 0, none⟩) i i, .slice (some (restAd g cap i)) (U.length - (i + 1)) (cap - (i + 1))]).run Tryz.prog w = .ok (.slice a (i + (U.length - (i + 1))) c) w3 ∧
      PairAt w3 base 92 a c (U.take i ++ U.drop (i + 1)) ∧ New w w3 ∧ (a = some ⟨g, 0, none⟩ ∨ ∀ x, a = some x → w.heap.size ≤ x.block) := by
  obtain ⟨i0, hi9, hz0, hz1, hz2⟩ := info_parts info_con
  rcases h.lies with ⟨h1, -, -⟩ | ⟨g', cs, e, hg, hB, hc⟩
  · cases h1
  cases e
  have holds : ∀ (j : Nat) v, (pairRow (U.take i))[j]? = some v → w.cell? ((⟨g, 0, none⟩ : Addr).add j) = some v := by
    have := h.part 0 (U.take i) (fun j y hy => by rw [List.getElem?_take] at hy; split at hy; rw [Nat.zero_add]; exact hy; cases hy)
    rwa [Nat.zero_mul] at this
  have hlo : (pairRow (U.take i)).length = i * i0.size := by rw [hz1, pairRow_len, List.length_take, Nat.min_eq_left (by omega)]
  by_cases hm : U.length - (i + 1) = 0
  · have hd : U.drop (i + 1) = [] := List.drop_eq_nil_of_le (by omega)
    refine ⟨some ⟨g, 0, none⟩, i, w, ?_, ?_, Mod.refl _ _, .inl rfl⟩
    · rw [hm]
      exact run_append_nothing (P := Tryz.prog) w _ _ _ _ i0 Tryz.underlying86 hi9 _ i i (Nat.le_refl _) _ (Src.ofSlice w Tryz.underlying86 _ 0 _ [] (by simp) (by simp) (by simp))
    · rw [hd, List.append_nil]
      refine ⟨by rw [List.length_take]; omega, by have := h.max; have := h.le; omega, .inr ⟨g, cs, rfl, hg, hB, fun j v hj => hc j v ?_⟩⟩
      have e : pairRow U = pairRow (U.take i) ++ pairRow (U.drop i) := by rw [← pairRow_app, List.take_append_drop]
      rw [e, List.getElem?_append_left (List.getElem?_eq_some_iff.1 hj).1]
      exact hj
  · have hnews : ∀ (j : Nat) v, (pairRow (U.drop (i + 1)))[j]? = some v → w.cell? ((restAd g cap i).add j) = some v := by
      have e : restAd g cap i = ⟨g, (i + 1) * 2, none⟩ := by unfold restAd; rw [if_neg (by have := h.le; omega)]
      rw [e]
      exact h.part (i + 1) _ (fun j y hy => by rw [List.getElem?_drop] at hy; exact hy)
    have hln : (pairRow (U.drop (i + 1))).length = (U.length - (i + 1)) * i0.size := by rw [hz1, pairRow_len, List.length_drop]
    have h63 : i + (U.length - (i + 1)) ≤ maxLen := by unfold maxLen; omega
    have hr := run_append_grow (P := Tryz.prog) w _ 86 _ i0 _ Tryz.underlying86 hi9 hz0 ⟨g, 0, none⟩ i i _ hlo holds (restAd g cap i) (U.length - (i + 1)) (cap - (i + 1)) _ hln hnews (by omega) (by omega) (growslice_fits (by omega) (by rw [hz2]; omega))
    refine ⟨_, _, _, hr, ⟨?_, grownCap_le_maxLen w _ _ _ h63, .inr ⟨w.heap.size, _, rfl, hb, Blk.new w.drew _ _, fun j v hj => ?_⟩⟩, ((Mod.refl _ _).drew).alloc _, .inr (fun x hx => by cases hx; exact Nat.le_refl _)⟩
    · have := grownCap_ge w (i + (U.length - (i + 1))) i 92
      simp
      omega
    · rw [← Array.getElem?_toList]
      simp only [Array.toList_append, List.append_assoc]
      rw [pairRow_app] at hj
      rw [← List.append_assoc, List.getElem?_append_left (by simpa using (List.getElem?_eq_some_iff.1 hj).1)]
      exact hj
theorem op_append {P : Program} {o : Oper} {a : Act} {K : Act → World → Prop} {Q : Exit → Act → World → Prop} {w w' : World} {v vs vx : Value} (s x : Operand) (t : TypeId)
    (ho : o.op = .call { callee := .builtin .append, args := #[s, x], argTypes := #[t, t] }) (hs : a.eval s = vs) (hx : a.eval x = vx) (hr : (Builtin.append_ #[t, t] o.type #[vs, vx]).run P w = .ok v w') (h : K (a.put o.dst v) w') : o.wp P a w K Q := by
  unfold Oper.wp execOp
  simp only [ho, resolve, invoke, builtin, Sem.run_bind, Sem.run_pure, Result.andThen_ok, List.map_toArray, List.map_cons, List.map_nil, hs, hx, hr]
  exact h
set_option maxRecDepth 100000 in
set_option maxHeartbeats 8000000 in
theorem rDrop_yes (R : Nat) (aa ah : Option Addr) (ca ch : Nat) (r : RcV) (n : ByteArray) (w : World) (h : RcAt w R aa ah ca ch r) (hl : r.all.length ≤ 200) (hs : n.size ≤ maxLen) (hok : r.dropE n = 0) :
    Calls Tryz.prog 21 #[.pointer (some ⟨R, 0, none⟩), .string n] w (RcDrop R aa ah ch r n w) := by
  have g1 : n.size = 20 := by
    unfold RcV.dropE at hok
    split at hok
    · assumption
    · cases hok
  have g2 : ¬ idxP r.all n < 0 := by
    intro q
    unfold RcV.dropE at hok
    rw [if_pos g1, if_pos q] at hok
    cases hok
  have HN := hid (rname_any n w hs)
  rw [decide_eq_true g1] at HN
  have HF := hid (find_any R aa ah ca ch r n w h hl)
  obtain ⟨r1, r2⟩ := idx_range r.all n
  obtain ⟨i, hi⟩ : ∃ i : Nat, idxP r.all n = i := ⟨(idxP r.all n).toNat, by omega⟩
  have HI := hid hi
  rw [hi] at HF r2
  have hil : i < r.all.length := by omega
  have HR := hid h
  obtain ⟨g, rfl⟩ : ∃ g, aa = some ⟨g, 0, none⟩ := by
    obtain ⟨g, e, -⟩ := h.all.get hil
    exact ⟨g, e⟩
  have hc1 := h.all.le; have hc2 := h.all.max
  unfold maxLen at hc2
  have HR3 := hid (fun W (n : New w W) => (show W.cell? ⟨R, 3, none⟩ = some (.slice (some ⟨g, 0, none⟩) r.all.length ca) from (h.new n).row.cellv 3 rfl))
  have HRL := hid (fun W (n : New w W) => (h.new n).row.lt)
  have HRF := hid (fun W (n : New w W) => (h.new n).row.frz 3)
  obtain ⟨i0, hi9, hz0, hz1, hz2⟩ := info_parts info_con
  clear h hok g1 g2 hi r1 r2
  have hw1 : IntKind.i64.wrap ((i : Int) + 1) = (i : Int) + 1 := by rw [IntKind.wrap_i64]; omega
  have hi63 : (r.all.length : Int) ≤ 200 := by omega
  go_enter Tryz.func21, Tryz.ntmps21
  go_wp2_with (first | (go_at_call 55; refine HN.out.mono ?_; rintro e w1 ⟨rfl, rfl⟩) | (go_at_call 56; refine HF.out.mono ?_; rintro e w2 ⟨rfl, n2⟩; have N2 := hid n2; have N2d : Hid (New w w2.drew) := hid n2.drew; have c3 := HR3.out _ N2d.out; have cl := HRL.out _ N2d.out; have cf := HRF.out _ N2d.out; clear n2) | fail)
  obtain ⟨a2, c2, w3, hrun, hp3, hn3, ha3⟩ := cut_append (HR.out.new N2d.out).all hil hl (by have := HR.out.row.lt; have := N2d.out.size; omega)
  have hsl3 := fun W => slice3_run (g := g) (n := r.all.length) (cap := ca) (i := i) (by omega) W
  have hsl2 := fun W => slice2_run (g := g) (n := r.all.length) (cap := ca) (i := i) (by omega) hc1 W
  have N3 : Hid (New w w3) := hid (N2d.out.trans hn3)
  have c33 := HR3.out _ N3.out; have cl3 := HRL.out _ N3.out; have cf3 := HRF.out _ N3.out
  have HP3 := hid hp3
  have HA3 : Hid (a2 = some ⟨g, 0, none⟩ ∨ ∀ x, a2 = some x → w.heap.size ≤ x.block) := hid (by
    rcases ha3 with h | h
    · exact .inl h
    · exact .inr (fun x hx => by have := h x hx; have := N2.out.size; simp at *; omega))
  obtain ⟨AD, hAD⟩ : ∃ AD, AD = restAd g ca i := ⟨_, rfl⟩
  rw [← hAD] at hrun hsl2
  obtain ⟨M2, hM2⟩ : ∃ M2, M2 = r.all.length - (i + 1) := ⟨_, rfl⟩
  obtain ⟨C2, hC2⟩ : ∃ C2, C2 = ca - (i + 1) := ⟨_, rfl⟩
  have HM2 := hid hM2
  rw [← hM2] at hrun hsl2
  rw [← hC2] at hrun hsl2
  clear hp3 hn3 ha3 hAD hM2 hC2
  refine wp_region_held_drew (S := (fun _ => True)) (by kernel_rfl) trivial (fun hHeld => ?_)
  refine tk (v := ?_) 0 ?_ ?_
  rotate_left
  · intro w hSw
    (try dsimp only at hSw)
    first | (go_simp; done) | (go_simp; with_reducible rfl) | with_reducible rfl
  simp only [Act.put, List.setIfInBounds_toArray, List.set_cons_zero, List.set_cons_succ]
  refine tk (v := ?_) 1 ?_ ?_
  rotate_left
  · intro w hSw
    (try dsimp only at hSw)
    first | (go_simp; done) | (go_simp; with_reducible rfl) | with_reducible rfl
  simp only [Act.put, List.setIfInBounds_toArray, List.set_cons_zero, List.set_cons_succ]
  refine tk (v := ?_) 2 ?_ ?_
  rotate_left
  · intro w hSw
    (try dsimp only at hSw)
    first | (go_simp; done) | (go_simp; with_reducible rfl) | with_reducible rfl
  simp only [Act.put, List.setIfInBounds_toArray, List.set_cons_zero, List.set_cons_succ]
  refine tk (v := ?_) 3 ?_ ?_
  rotate_left
  · intro w hSw
    (try dsimp only at hSw)
    first | (go_simp; done) | (go_simp; with_reducible rfl) | with_reducible rfl
  simp only [Act.put, List.setIfInBounds_toArray, List.set_cons_zero, List.set_cons_succ]
  refine tk (v := ?_) 5 ?_ ?_
  rotate_left
  · intro w hSw
    (try dsimp only at hSw)
    first | (go_simp; done) | (go_simp; with_reducible rfl) | with_reducible rfl
  simp only [Act.put, List.setIfInBounds_toArray, List.set_cons_zero, List.set_cons_succ]
  refine tk (v := ?_) 6 ?_ ?_
  rotate_left
  · intro w hSw
    (try dsimp only at hSw)
    first | (go_simp; done) | (go_simp; with_reducible rfl) | with_reducible rfl
  simp only [Act.put, List.setIfInBounds_toArray, List.set_cons_zero, List.set_cons_succ]
  refine tk (v := ?_) 8 ?_ ?_
  rotate_left
  · intro w hSw
    (try dsimp only at hSw)
    first | (go_simp; done) | (go_simp; with_reducible rfl) | with_reducible rfl
  simp only [Act.put, List.setIfInBounds_toArray, List.set_cons_zero, List.set_cons_succ]
  refine tk (v := ?_) 9 ?_ ?_
  rotate_left
  · intro w hSw
    (try dsimp only at hSw)
    first | (go_simp; done) | (go_simp; with_reducible rfl) | with_reducible rfl
  simp only [Act.put, List.setIfInBounds_toArray, List.set_cons_zero, List.set_cons_succ]
  refine tk (v := ?_) 10 ?_ ?_
  rotate_left
  · intro w hSw
    (try dsimp only at hSw)
    first | (go_simp; done) | (go_simp; with_reducible rfl) | with_reducible rfl
  simp only [Act.put, List.setIfInBounds_toArray, List.set_cons_zero, List.set_cons_succ]
  refine tk (v := ?_) 12 ?_ ?_
  rotate_left
  · intro w hSw
    (try dsimp only at hSw)
    first | (go_simp; done) | (go_simp; with_reducible rfl) | with_reducible rfl
  simp only [Act.put, List.setIfInBounds_toArray, List.set_cons_zero, List.set_cons_succ]
  refine tk (v := ?_) 13 ?_ ?_
  rotate_left
  · intro w hSw
    (try dsimp only at hSw)
    first | (go_simp; done) | (go_simp; with_reducible rfl) | with_reducible rfl
  simp only [Act.put, List.setIfInBounds_toArray, List.set_cons_zero, List.set_cons_succ]
  refine wpAnyH_ready (rs := [4, 11]) (by kernel_rfl) (by simp) ?_
  refine AllReadyH.cons (by simp only [List.getElem?_toArray, List.getElem?_cons_succ, List.getElem?_cons_zero]; rfl) (fun K hK => ?_) (AllReadyH.cons (by simp only [List.getElem?_toArray, List.getElem?_cons_succ, List.getElem?_cons_zero]; rfl) (fun K hK => ?_) AllReadyH.nil)
  · go_simp
    refine hK.out _ _ trivial (fun hHeld9 => ?_)
    clear hK K hHeld9
    try simp only [Act.put, List.setIfInBounds_toArray, List.set_cons_zero, List.set_cons_succ]
    refine tk (v := ?_) 7 ?_ ?_
    rotate_left
    · intro w hSw
      (try dsimp only at hSw)
      first | (go_simp; done) | (go_simp; with_reducible rfl) | with_reducible rfl
    simp only [Act.put, List.setIfInBounds_toArray, List.set_cons_zero, List.set_cons_succ]
    refine wpAnyH_ready (rs := [11]) (by kernel_rfl) (by simp) ?_
    refine AllReadyH.cons (by simp only [List.getElem?_toArray, List.getElem?_cons_succ, List.getElem?_cons_zero]; rfl) (fun K hK => ?_) AllReadyH.nil
    go_simp
    refine hK.out _ _ trivial (fun hHeld11 => ?_)
    clear hK K hHeld11
    try simp only [Act.put, List.setIfInBounds_toArray, List.set_cons_zero, List.set_cons_succ]
    refine tk (v := ?_) 14 ?_ ?_
    rotate_left
    · intro w hSw
      (try dsimp only at hSw)
      first | (go_simp; done) | (go_simp; with_reducible rfl) | with_reducible rfl
    simp only [Act.put, List.setIfInBounds_toArray, List.set_cons_zero, List.set_cons_succ]
    refine wpAnyH_ready (rs := [15]) (by kernel_rfl) (by simp) ?_
    refine AllReadyH.cons (by simp only [List.getElem?_toArray, List.getElem?_cons_succ, List.getElem?_cons_zero]; rfl) (fun K hK => ?_) AllReadyH.nil
    rw [if_pos (by rfl)]
    refine op_append _ _ _ rfl rfl rfl hrun ?_
    simp only [Act.put, List.setIfInBounds_toArray, List.set_cons_zero, List.set_cons_succ]
    refine hK.out _ _ trivial (fun hHeld9 => ?_)
    clear hK K hHeld9
    try simp only [Act.put, List.setIfInBounds_toArray, List.set_cons_zero, List.set_cons_succ]
    refine tk (v := ?_) 16 ?_ ?_
    rotate_left
    · intro w hSw
      (try dsimp only at hSw)
      first | (go_simp; done) | (go_simp; with_reducible rfl) | with_reducible rfl
    simp only [Act.put, List.setIfInBounds_toArray, List.set_cons_zero, List.set_cons_succ]
    refine tk (v := ?_) 17 ?_ ?_
    rotate_left
    · intro w hSw
      (try dsimp only at hSw)
      first | (go_simp; done) | (go_simp; with_reducible rfl) | with_reducible rfl
    simp only [Act.put, List.setIfInBounds_toArray, List.set_cons_zero, List.set_cons_succ]
    refine wpAnyH_ready (rs := [18]) (by kernel_rfl) (by simp) ?_
    refine AllReadyH.cons (by simp only [List.getElem?_toArray, List.getElem?_cons_succ, List.getElem?_cons_zero]; rfl) (fun K hK => ?_) AllReadyH.nil
    go_simp
    refine hK.out _ _ trivial (fun hHeld18 => ?_)
    clear hK K hHeld18
    try simp only [Act.put, List.setIfInBounds_toArray, List.set_cons_zero, List.set_cons_succ]
    refine wpAnyH_done (by kernel_rfl) ?_ _
    go_wp2
    go_ret
    rw [HM2.out]
    exact RcDrop.of (HR.out.new N3.out) N3.out HI.out hil HP3.out HA3.out
  · go_simp
    refine hK.out _ _ trivial (fun hHeld9 => ?_)
    clear hK K hHeld9
    try simp only [Act.put, List.setIfInBounds_toArray, List.set_cons_zero, List.set_cons_succ]
    refine tk (v := ?_) 14 ?_ ?_
    rotate_left
    · intro w hSw
      (try dsimp only at hSw)
      first | (go_simp; done) | (go_simp; with_reducible rfl) | with_reducible rfl
    simp only [Act.put, List.setIfInBounds_toArray, List.set_cons_zero, List.set_cons_succ]
    refine wpAnyH_ready (rs := [4]) (by kernel_rfl) (by simp) ?_
    refine AllReadyH.cons (by simp only [List.getElem?_toArray, List.getElem?_cons_succ, List.getElem?_cons_zero]; rfl) (fun K hK => ?_) AllReadyH.nil
    go_simp
    refine hK.out _ _ trivial (fun hHeld4 => ?_)
    clear hK K hHeld4
    try simp only [Act.put, List.setIfInBounds_toArray, List.set_cons_zero, List.set_cons_succ]
    refine tk (v := ?_) 7 ?_ ?_
    rotate_left
    · intro w hSw
      (try dsimp only at hSw)
      first | (go_simp; done) | (go_simp; with_reducible rfl) | with_reducible rfl
    simp only [Act.put, List.setIfInBounds_toArray, List.set_cons_zero, List.set_cons_succ]
    refine wpAnyH_ready (rs := [15]) (by kernel_rfl) (by simp) ?_
    refine AllReadyH.cons (by simp only [List.getElem?_toArray, List.getElem?_cons_succ, List.getElem?_cons_zero]; rfl) (fun K hK => ?_) AllReadyH.nil
    rw [if_pos (by rfl)]
    refine op_append _ _ _ rfl rfl rfl hrun ?_
    simp only [Act.put, List.setIfInBounds_toArray, List.set_cons_zero, List.set_cons_succ]
    refine hK.out _ _ trivial (fun hHeld9 => ?_)
    clear hK K hHeld9
    try simp only [Act.put, List.setIfInBounds_toArray, List.set_cons_zero, List.set_cons_succ]
    refine tk (v := ?_) 16 ?_ ?_
    rotate_left
    · intro w hSw
      (try dsimp only at hSw)
      first | (go_simp; done) | (go_simp; with_reducible rfl) | with_reducible rfl
    simp only [Act.put, List.setIfInBounds_toArray, List.set_cons_zero, List.set_cons_succ]
    refine tk (v := ?_) 17 ?_ ?_
    rotate_left
    · intro w hSw
      (try dsimp only at hSw)
      first | (go_simp; done) | (go_simp; with_reducible rfl) | with_reducible rfl
    simp only [Act.put, List.setIfInBounds_toArray, List.set_cons_zero, List.set_cons_succ]
    refine wpAnyH_ready (rs := [18]) (by kernel_rfl) (by simp) ?_
    refine AllReadyH.cons (by simp only [List.getElem?_toArray, List.getElem?_cons_succ, List.getElem?_cons_zero]; rfl) (fun K hK => ?_) AllReadyH.nil
    go_simp
    refine hK.out _ _ trivial (fun hHeld18 => ?_)
    clear hK K hHeld18
    try simp only [Act.put, List.setIfInBounds_toArray, List.set_cons_zero, List.set_cons_succ]
    refine wpAnyH_done (by kernel_rfl) ?_ _
    go_wp2
    go_ret
    rw [HM2.out]
    exact RcDrop.of (HR.out.new N3.out) N3.out HI.out hil HP3.out HA3.out
end Go.Proofs.YtnflhjagmngimaaGreatDoor
