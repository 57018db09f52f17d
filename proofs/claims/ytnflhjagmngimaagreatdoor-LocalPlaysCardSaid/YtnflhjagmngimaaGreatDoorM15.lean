/-
  Several texts in one, in their build order. The walk of a crier's Tell in time (package local). Conditions: the crier lies as told; the library's table is laid.
-/
import Derived.Test.YtnflhjagmngimaaGreatDoorM14
namespace Go.Proofs.YtnflhjagmngimaaGreatDoor
set_option linter.unusedSimpArgs false
set_option linter.unusedVariables false
open Go.RowKit Go.Shelf
attribute [local go_sem] Oper.semAt_some

set_option maxRecDepth 100000 in
set_option maxHeartbeats 8000000 in
theorem cTell_any (B M H : Nat) (c : CrV) (t : Int) (w : World) (h : CrAt w B M H c) (ho : CrOk c) (hat : c.atE t = 0) (htab : ∀ W, Mod (fun k => k = B ∨ k = M) w W → Tab W) :
    Calls Tryz.prog 10 #[.pointer (some ⟨B, 0, none⟩), .int .i64 t] w (TellPost w B M H c t) := by
  have HAT := hid (fun W (n : New w W) => crAt_any B M H c t W (h.new n))
  obtain ⟨t0, t1⟩ := at_factsC hat
  have HW := hid (fun W (n : New w W) => waiting_any B M H c W (h.new n) ho)
  have HC := hid h; have HO := hid ho; have HTB := hid htab
  obtain ⟨hBl, hMl, hHl⟩ := h.lt
  rw [hat] at HAT
  clear h ho hat htab
  refine (callsIn_wide (n := 9)).1 ?_
  refine callsIn_of_wp_marks Tryz.func10 rfl trivial ?_ rfl
  simp only [Tryz.ntmps10, List.size_toArray, List.length_cons, List.length_nil, Nat.reduceAdd, Nat.reduceSub, Array.replicate_succ, Array.replicate_zero, List.push_toArray, List.append_toArray, List.nil_append, List.cons_append]
  gi_wp2_with fail
  refine name_worldC (p := fun W => Code.wpIn _ _ _ _ _ _ W) (fun W0 hW0 => ?_)
  have hs0 : W0.heap.size = w.heap.size + 2 := by rw [hW0]; simp
  have k0 : Blk W0 w.heap.size #[.pointer (some ⟨B, 0, none⟩)] 24 := by rw [hW0]; exact (Blk.new _ _ _).alloc _
  have k1 : Blk W0 (w.heap.size + 1) #[.int .i64 t] 3 := by rw [hW0]; exact Blk.newAt (by simp)
  have kn : New w W0 := by rw [hW0]; exact ((Mod.refl _ _).alloc _).alloc _
  clear hW0
  have K0 := hid k0; have K1 := hid k1; have KN := hid kn
  have q0 := k0.cellv 0 rfl; have q1 := k1.cellv 0 rfl
  have l0 := k0.lt; have l1 := k1.lt
  clear k0 k1 kn
  refine wp_region_wideP (fun w' => w'.cell? ⟨w.heap.size, 0, none⟩ = some (.pointer (some ⟨B, 0, none⟩)) ∧ w'.cell? ⟨w.heap.size + 1, 0, none⟩ = some (.int .i64 t)) (by kernel_rfl) ⟨q0, q1⟩ (fun hHeld => ?_)
  refine tk (v := ?_) 0 ?_ ?_
  rotate_left
  · intro w hSw
    (try dsimp only at hSw)
    first | (go_simp; done) | (go_simp; with_reducible rfl) | with_reducible rfl
  simp only [Act.put, List.setIfInBounds_toArray, List.set_cons_zero, List.set_cons_succ]
  refine tk (v := ?_) 1 ?_ ?_
  rotate_left
  · intro w hSw
    (try dsimp only at hSw)
    first | (go_simp; done) | (go_simp; with_reducible rfl) | with_reducible rfl
  simp only [Act.put, List.setIfInBounds_toArray, List.set_cons_zero, List.set_cons_succ]
  refine tk (v := ?_) 2 ?_ ?_
  rotate_left
  · intro w hSw
    (try dsimp only at hSw)
    first | (go_simp; done) | (go_simp; with_reducible rfl) | with_reducible rfl
  simp only [Act.put, List.setIfInBounds_toArray, List.set_cons_zero, List.set_cons_succ]
  refine tk (v := ?_) 3 ?_ ?_
  rotate_left
  · intro w hSw
    (try dsimp only at hSw)
    first | (go_simp; done) | (go_simp; with_reducible rfl) | with_reducible rfl
  simp only [Act.put, List.setIfInBounds_toArray, List.set_cons_zero, List.set_cons_succ]
  refine wpAnyH_ready (rs := [4]) (by kernel_rfl) (by simp) ?_
  refine AllReadyH.cons rfl (fun K hK => ?_) AllReadyH.nil
  go_simp
  (go_at_call 36; refine (HAT.out _ (KN.out.drew)).mono ?_; rintro e w4 ⟨rfl, rfl⟩)
  try dsimp only
  refine hK.out _ _ ⟨q0, q1⟩ (fun hHeld4 => ?_)
  clear hK K
  try simp only [Act.put, List.setIfInBounds_toArray, List.set_cons_zero, List.set_cons_succ]
  refine tk (v := ?_) 5 ?_ ?_
  rotate_left
  · intro w hSw
    (try dsimp only at hSw)
    first | (go_simp; done) | (go_simp; with_reducible rfl) | with_reducible rfl
  simp only [Act.put, List.setIfInBounds_toArray, List.set_cons_zero, List.set_cons_succ]
  refine wpAnyH_done (by kernel_rfl) (noPanic_ok ?_) _
  have kc := HC.out.new KN.out
  have c1 : W0.cell? ⟨B, 1, none⟩ = some (.string c.cookie) := kc.row.cellv 1 rfl
  have c2 : W0.cell? ⟨B, 2, none⟩ = some (.int .i64 c.port) := kc.row.cellv 2 rfl
  have cl := kc.row.lt
  clear kc
  gi_wp2_with fail
  refine wp_region_wideP (fun w' => w'.cell? ⟨w.heap.size, 0, none⟩ = some (.pointer (some ⟨B, 0, none⟩)) ∧ w'.cell? ⟨B, 1, none⟩ = some (.string c.cookie) ∧ w'.cell? ⟨B, 2, none⟩ = some (.int .i64 c.port)) (by kernel_rfl) ⟨q0, c1, c2⟩ (fun hHeld => ?_)
  refine tk (v := ?_) 0 ?_ ?_
  rotate_left
  · intro w hSw
    (try dsimp only at hSw)
    first | (go_simp; done) | (go_simp; with_reducible rfl) | with_reducible rfl
  simp only [Act.put, List.setIfInBounds_toArray, List.set_cons_zero, List.set_cons_succ]
  refine tk (v := ?_) 1 ?_ ?_
  rotate_left
  · intro w hSw
    (try dsimp only at hSw)
    first | (go_simp; done) | (go_simp; with_reducible rfl) | with_reducible rfl
  simp only [Act.put, List.setIfInBounds_toArray, List.set_cons_zero, List.set_cons_succ]
  refine tk (v := ?_) 2 ?_ ?_
  rotate_left
  · intro w hSw
    (try dsimp only at hSw)
    first | (go_simp; done) | (go_simp; with_reducible rfl) | with_reducible rfl
  simp only [Act.put, List.setIfInBounds_toArray, List.set_cons_zero, List.set_cons_succ]
  refine tk (v := ?_) 3 ?_ ?_
  rotate_left
  · intro w hSw
    (try dsimp only at hSw)
    first | (go_simp; done) | (go_simp; with_reducible rfl) | with_reducible rfl
  simp only [Act.put, List.setIfInBounds_toArray, List.set_cons_zero, List.set_cons_succ]
  refine tk (v := ?_) 4 ?_ ?_
  rotate_left
  · intro w hSw
    (try dsimp only at hSw)
    first | (go_simp; done) | (go_simp; with_reducible rfl) | with_reducible rfl
  simp only [Act.put, List.setIfInBounds_toArray, List.set_cons_zero, List.set_cons_succ]
  refine tk (v := ?_) 5 ?_ ?_
  rotate_left
  · intro w hSw
    (try dsimp only at hSw)
    first | (go_simp; done) | (go_simp; with_reducible rfl) | with_reducible rfl
  simp only [Act.put, List.setIfInBounds_toArray, List.set_cons_zero, List.set_cons_succ]
  refine tk (v := ?_) 6 ?_ ?_
  rotate_left
  · intro w hSw
    (try dsimp only at hSw)
    first | (go_simp; done) | (go_simp; with_reducible rfl) | with_reducible rfl
  simp only [Act.put, List.setIfInBounds_toArray, List.set_cons_zero, List.set_cons_succ]
  refine tk (v := ?_) 7 ?_ ?_
  rotate_left
  · intro w hSw
    (try dsimp only at hSw)
    first | (go_simp; done) | (go_simp; with_reducible rfl) | with_reducible rfl
  simp only [Act.put, List.setIfInBounds_toArray, List.set_cons_zero, List.set_cons_succ]
  refine tk (v := ?_) 8 ?_ ?_
  rotate_left
  · intro w hSw
    (try dsimp only at hSw)
    first | (go_simp; done) | (go_simp; with_reducible rfl) | with_reducible rfl
  simp only [Act.put, List.setIfInBounds_toArray, List.set_cons_zero, List.set_cons_succ]
  have nA : ∀ o, New W0 (W0.drew.drew.alloc o) := fun o => ((Mod.refl _ W0).drew.drew).alloc o
  refine wpAnyH_ready (rs := [9]) (by kernel_rfl) (by simp) ?_
  refine AllReadyH.cons (by simp only [List.getElem?_toArray, List.getElem?_cons_succ, List.getElem?_cons_zero]; rfl) (fun K hK => ?_) AllReadyH.nil
  go_simp
  refine hK.out _ _ ⟨New.cellv (nA _) q0, New.cellv (nA _) c1, New.cellv (nA _) c2⟩ (fun hHeld9 => ?_)
  clear hK K
  try simp only [Act.put, List.setIfInBounds_toArray, List.set_cons_zero, List.set_cons_succ]
  have B0 := Blk.newAt (w := W0) (cs := #[.int .i64 0, .slice none 0 0, .string ⟨#[]⟩]) (t := 34) hs0.symm
  have m0 := B0.cellv 0 rfl; have m1 := B0.cellv 1 rfl; have m2 := B0.cellv 2 rfl; have ml := B0.lt
  have e0 := B0.frz 0; have e1 := B0.frz 1; have e2 := B0.frz 2
  refine wpAnyH_ready (rs := [10]) (by kernel_rfl) (by simp) ?_
  refine AllReadyH.cons (by simp only [List.getElem?_toArray, List.getElem?_cons_succ, List.getElem?_cons_zero]; rfl) (fun K hK => ?_) AllReadyH.nil
  go_simp
  refine hK.out _ _ ⟨New.cellv (nA (.cells #[.int .i64 c.port, .slice none 0 0, .string c.cookie] 34)) q0, New.cellv (nA (.cells #[.int .i64 c.port, .slice none 0 0, .string c.cookie] 34)) c1, New.cellv (nA (.cells #[.int .i64 c.port, .slice none 0 0, .string c.cookie] 34)) c2⟩ (fun hHeld10 => ?_)
  clear hK K m0 m1 m2 ml e0 e1 e2 B0
  refine wpAnyH_done (by kernel_rfl) (noPanic_ok ?_) _
  refine name_worldC (p := fun W => Exit.then _ _ _ _ W) (fun W1 hW1 => ?_)
  have n1 : New W0 W1 := by rw [hW1]; exact (((Mod.refl _ W0).alloc _).drew).drew
  have hs1 : W1.heap.size = w.heap.size + 3 := by rw [hW1]; show (W0.alloc _).heap.size = _; simp [hs0]
  have B1 : Blk W1 (w.heap.size + 2) #[.int .i64 c.port, .slice none 0 0, .string c.cookie] 34 := by
    rw [hW1]; exact ((Blk.newAt hs0.symm).drew).drew
  have NB := hid B1; have N1 := hid (KN.out.trans n1); have K01 := hid (New.blk n1 K0.out); have K11 := hid (New.blk n1 K1.out)
  have q0 := K01.out.cellv 0 rfl; have l0 := K01.out.lt
  clear hW1 n1 B1 nA q1 c1 c2 cl K0 K1 KN l1
  gi_wp2_with (refine ⟨trivial, ?_⟩; gi_at_call 37; refine (callsIn_wide.2 (HW.out _ N1.out)).mono ?_; rintro e w1 ⟨vb, U, a, cap, rfl, hvb, hst, hp, hpw, n1', hz1, hz2⟩)
  rw [hs1] at hz1 hz2
  have N2 := hid (N1.out.trans n1')
  have k0 := New.blk n1' K01.out; have k1 := New.blk n1' K11.out; have k2 := New.blk n1' NB.out
  have kc := HC.out.new N2.out
  have HP := hid hp; have HPW := hid hpw
  have hvl := hvb.lt
  refine wpIn_range rfl (by omega) (gf := 94) (lb := #[.pointer (some ⟨vb, 0, none⟩)]) rfl trivial (enters_of Tryz.func94 (by kernel_rfl) rfl) ?_
  intro fn _ rec hrec
  have hst2 : New w1 ((w1.alloc (.deferred (some []))).alloc (.loop (rec .ready none))) := ((Mod.refl _ _).alloc _).alloc _
  have hl0 : ((w1.alloc (.deferred (some []))).alloc (.loop (rec .ready none))).heap[w1.heap.size + 1]? = some (.loop (rec .ready none)) := by
    have := World.alloc_heap_new (w := w1.alloc (.deferred (some []))) (o := .loop (rec .ready none))
    rwa [World.size_alloc] at this
  have hd0 : ((w1.alloc (.deferred (some []))).alloc (.loop (rec .ready none))).heap[w1.heap.size]? = some (.deferred (some [])) := (Below.heap_alloc _ _ _ (by simp)).trans (World.alloc_heap_new w1 _)
  have hPP : Hid (TlP w B M H vb w1.heap.size a) := hid ⟨hBl, hMl, hHl, hz1, hvl, fun x hx => hz2 x hx⟩
  obtain ⟨D, hD⟩ : ∃ D, D = w1.heap.size := ⟨_, rfl⟩
  rw [← hD] at hrec hl0 hd0 hPP ⊢
  have henv : TlE w B M H c t vb a cap U D (.loop (rec .ready none)) none 0 [] ((w1.alloc (.deferred (some []))).alloc (.loop (rec .ready none))) :=
    ⟨New.blk hst2 k0, New.blk hst2 k1, New.blk hst2 k2, ⟨by simp, by simp [maxLen], by simp, .inl rfl⟩, by simp, kc.new hst2, New.blk hst2 hvb, hst.new hst2, hd0, hl0, Mod.trans N2.out hst2⟩
  generalize (w1.alloc (.deferred (some []))).alloc (.loop (rec .ready none)) = W1' at *
  clear hs0 hs1 k0 k1 k2 kc hst2 hl0 hd0 n1' hvb hst hp hpw hz1 hz2 hvl N1 N2 hD K01 K11 NB q0 l0
  refine (values_iter a cap U vb (D + 1) 8 (by omega) (TlGo w B M H c t vb a cap U D rec) (TlStop w B M H c t vb a cap U D rec) ?hI ?hY W1' ⟨none, 0, [], List.Perm.refl _, .inl rfl, by simp, ⟨U, rfl⟩, henv⟩).mono ?fin
  case hI =>
    rintro T W ⟨a', c', N, -, -, -, -, e⟩
    exact ⟨e.vals, e.strs⟩
  case hY =>
    rintro T s rest W ⟨a', c', N, hp, hv, hd, -, hE⟩ hU
    have HU := hid hU.symm; have HPM := hid hp; have HV := hid hv; have HDT := hid hd
    have HDU := hid (fun W (q : CrAt W B M H c) => due_any B M H c s W q HO.out)
    have hUl : U.length ≤ 200 := by have := HP.out.length_eq; have := HO.out.few; omega
    have hNl : N.length ≤ 199 := by
      have h1 := hp.length_eq
      have h2 := congrArg List.length hU
      simp only [List.length_append, List.length_cons] at h2
      omega
    have hss : s.size = 20 := HO.out.size s (HP.out.mem_iff.1 (by rw [HU.out]; simp))
    obtain ⟨X, hX⟩ : ∃ X, X = dueT c.every (c.last s) := ⟨_, rfl⟩
    have HX := hid hX
    rw [← hX] at HDU
    refine yieldAt_round hrec hE.hL rfl trivial ?_
    have HE := hid hE
    clear hE hrec henv hU hX hp hv hd
    gi_wp2
    refine ⟨HE.out.hL, ?_⟩
    refine name_worldC (p := fun W => Code.wpIn _ _ _ _ _ _ W) (fun W3 hW3 => ?_)
    have hE3 : TlE w B M H c t vb a cap U D (.loop (rec .busy none)) a' c' N W3 := by rw [hW3]; exact HE.out.put hPP.out
    clear hW3
    have HE3 := hid hE3
    have q1 : W3.cell? ⟨w.heap.size + 2, 1, none⟩ = some (.slice a' N.length c') := hE3.r2.cellv 1 rfl
    have ql := hE3.r2.lt
    clear hE3
    obtain ⟨i1, hj, hy0, hy1, hy2⟩ := info_parts info_str
    gi_wp2_with (first | (refine ⟨trivial, ?_⟩; gi_at_call 39; refine (CallsIn.inRound _ (callsIn_wide.2 (cloneT_any a' c' N W3 HE3.out.ns (by omega)))).mono ?_; rintro e w4 ⟨v, rfl, ho4, n4⟩; have HO4 := hid ho4; have N4 := hid n4; clear ho4 n4) | (gi_at_builtin; refine wpListIn_append_own _ rfl _ _ 22 rfl W3.heap.size 9 i1 _ 1 16 Tryz.underlying22 hj hy0 hy1 hy2 rfl (by decide) v N.length (N.map Value.string) rfl ?ow ⟨w4.heap.size, 0, none⟩ 1 1 [.string s] rfl rfl ?hn ?h1 ?h63 ?hby ?hba ?_))
    case ow => exact (HO4.out.new ((Mod.refl _ _).alloc _)).row
    case hn =>
      intro j u hj
      rw [add_zero]
      match j, hj with
      | 0, hj => simp at hj; subst hj; exact (Blk.newAt (by simp)).cellv 0 rfl
    case h1 => intro u hu; simp at hu; subst hu; rfl
    case h63 => unfold maxLen; omega
    case hby => omega
    case hba => have := N4.out.size; simp; omega
    intro o5 w5 r5 g5 _
    have O5 : Hid (OwnT w5 W3.heap.size o5 (N ++ [s])) := hid (ownT_of HO4.out.small (by unfold maxLen; omega) r5)
    have M5 : Hid (Mod (fun k => W3.heap.size ≤ k) w4 w5) := hid (mod_grownT (HO4.out.new ((Mod.refl _ _).alloc _)) (Nat.le_refl _) ((Mod.refl _ _).alloc _) g5)
    clear r5 g5 q1 ql
    gi_wp2_with (refine ⟨trivial, ?_⟩; gi_at_call 40; refine (CallsIn.inRound _ (callsIn_wide.2 (sortT_any W3.heap.size o5 (N ++ [s]) w5 O5.out (by rw [List.length_append, List.length_singleton]; omega)))).mono ?_; rintro e w6 ⟨rfl, a2, c2, hv2, hs2, hb2, m6⟩)
    subst hv2
    obtain ⟨N2, hN2⟩ : ∃ N2, N2 = sortB (N ++ [s]) := ⟨_, rfl⟩
    have HN2 := hid hN2
    rw [← hN2] at hs2 ⊢
    have N6 : Hid (New W3 w6) := hid ((N4.out.trans' M5.out (fun k hk q => by omega)).trans' m6 (fun k hk q => by omega))
    have HS2 := hid hs2
    have hz6 := N4.out.size
    have HB2 : Hid (∀ x, a2 = some x → W3.heap.size ≤ x.block ∧ x.block < w6.heap.size) := hid hb2
    have HE6 := hid (HE3.out.step N6.out)
    have q0 := HE6.out.r0.cellv 0 rfl
    have c1 : w6.cell? ⟨B, 1, none⟩ = some (.string c.cookie) := HE6.out.cr.row.cellv 1 rfl
    have c2' : w6.cell? ⟨B, 2, none⟩ = some (.int .i64 c.port) := HE6.out.cr.row.cellv 2 rfl
    have cl := HE6.out.cr.row.lt
    clear hs2 hb2 m6 hN2 hz6
    gi_wp2_with fail
    refine wp_region_round (fun w' => w'.cell? ⟨w.heap.size, 0, none⟩ = some (.pointer (some ⟨B, 0, none⟩)) ∧ w'.cell? ⟨B, 1, none⟩ = some (.string c.cookie) ∧ w'.cell? ⟨B, 2, none⟩ = some (.int .i64 c.port)) (by kernel_rfl) (noDefer_spec (by kernel_rfl)) (by rintro ⟨a, w, q⟩; exact q) ⟨q0, c1, c2'⟩ (fun hHeld => ?_)
    refine tk (v := ?_) 0 ?_ ?_
    rotate_left
    · intro w hSw
      (try dsimp only at hSw)
      first | (go_simp; done) | (go_simp; with_reducible rfl) | with_reducible rfl
    simp only [Act.put, List.setIfInBounds_toArray, List.set_cons_zero, List.set_cons_succ]
    refine tk (v := ?_) 1 ?_ ?_
    rotate_left
    · intro w hSw
      (try dsimp only at hSw)
      first | (go_simp; done) | (go_simp; with_reducible rfl) | with_reducible rfl
    simp only [Act.put, List.setIfInBounds_toArray, List.set_cons_zero, List.set_cons_succ]
    refine tk (v := ?_) 2 ?_ ?_
    rotate_left
    · intro w hSw
      (try dsimp only at hSw)
      first | (go_simp; done) | (go_simp; with_reducible rfl) | with_reducible rfl
    simp only [Act.put, List.setIfInBounds_toArray, List.set_cons_zero, List.set_cons_succ]
    refine tk (v := ?_) 3 ?_ ?_
    rotate_left
    · intro w hSw
      (try dsimp only at hSw)
      first | (go_simp; done) | (go_simp; with_reducible rfl) | with_reducible rfl
    simp only [Act.put, List.setIfInBounds_toArray, List.set_cons_zero, List.set_cons_succ]
    refine tk (v := ?_) 4 ?_ ?_
    rotate_left
    · intro w hSw
      (try dsimp only at hSw)
      first | (go_simp; done) | (go_simp; with_reducible rfl) | with_reducible rfl
    simp only [Act.put, List.setIfInBounds_toArray, List.set_cons_zero, List.set_cons_succ]
    refine tk (v := ?_) 5 ?_ ?_
    rotate_left
    · intro w hSw
      (try dsimp only at hSw)
      first | (go_simp; done) | (go_simp; with_reducible rfl) | with_reducible rfl
    simp only [Act.put, List.setIfInBounds_toArray, List.set_cons_zero, List.set_cons_succ]
    refine tk (v := ?_) 6 ?_ ?_
    rotate_left
    · intro w hSw
      (try dsimp only at hSw)
      first | (go_simp; done) | (go_simp; with_reducible rfl) | with_reducible rfl
    simp only [Act.put, List.setIfInBounds_toArray, List.set_cons_zero, List.set_cons_succ]
    refine tk (v := ?_) 7 ?_ ?_
    rotate_left
    · intro w hSw
      (try dsimp only at hSw)
      first | (go_simp; done) | (go_simp; with_reducible rfl) | with_reducible rfl
    simp only [Act.put, List.setIfInBounds_toArray, List.set_cons_zero, List.set_cons_succ]
    refine tk (v := ?_) 8 ?_ ?_
    rotate_left
    · intro w hSw
      (try dsimp only at hSw)
      first | (go_simp; done) | (go_simp; with_reducible rfl) | with_reducible rfl
    simp only [Act.put, List.setIfInBounds_toArray, List.set_cons_zero, List.set_cons_succ]
    refine tk (v := ?_) 9 ?_ ?_
    rotate_left
    · intro w hSw
      (try dsimp only at hSw)
      first | (go_simp; done) | (go_simp; with_reducible rfl) | with_reducible rfl
    simp only [Act.put, List.setIfInBounds_toArray, List.set_cons_zero, List.set_cons_succ]
    have nA : ∀ o, New w6 (w6.drew.alloc o) := fun o => ((Mod.refl _ w6).drew).alloc o
    refine wpAnyH_ready (rs := [10]) (by kernel_rfl) (by simp) ?_
    refine AllReadyH.cons (by simp only [List.getElem?_toArray, List.getElem?_cons_succ, List.getElem?_cons_zero]; rfl) (fun K hK => ?_) AllReadyH.nil
    go_simp
    refine hK.out _ _ ⟨New.cellv (nA _) q0, New.cellv (nA _) c1, New.cellv (nA _) c2'⟩ (fun hHeld10 => ?_)
    clear hK K
    try simp only [Act.put, List.setIfInBounds_toArray, List.set_cons_zero, List.set_cons_succ]
    have B0 := Blk.newAt (w := w6) (cs := #[.int .i64 0, .slice none 0 0, .string ⟨#[]⟩]) (t := 34) rfl
    have m0 := B0.cellv 0 rfl; have m1 := B0.cellv 1 rfl; have m2 := B0.cellv 2 rfl; have ml := B0.lt
    have e0 := B0.frz 0; have e1 := B0.frz 1; have e2 := B0.frz 2
    refine wpAnyH_ready (rs := [11]) (by kernel_rfl) (by simp) ?_
    refine AllReadyH.cons (by simp only [List.getElem?_toArray, List.getElem?_cons_succ, List.getElem?_cons_zero]; rfl) (fun K hK => ?_) AllReadyH.nil
    go_simp
    refine hK.out _ _ ⟨New.cellv (nA (.cells #[.int .i64 c.port, .slice a2 N2.length c2, .string c.cookie] 34)) q0, New.cellv (nA (.cells #[.int .i64 c.port, .slice a2 N2.length c2, .string c.cookie] 34)) c1, New.cellv (nA (.cells #[.int .i64 c.port, .slice a2 N2.length c2, .string c.cookie] 34)) c2'⟩ (fun hHeld11 => ?_)
    clear hK K m0 m1 m2 ml e0 e1 e2 B0 hHeld hHeld10 hHeld11 q0 c1 c2' cl nA
    refine wpAnyH_done (by kernel_rfl) ?_ _
    refine name_worldC (p := fun W => Exit.then _ _ _ _ W) (fun W7 hW7 => ?_)
    have n7 : New w6 W7 := by rw [hW7]; exact ((Mod.refl _ w6).alloc _).drew
    have B7 : Hid (Blk W7 w6.heap.size #[.int .i64 c.port, .slice a2 N2.length c2, .string c.cookie] 34) := hid (by rw [hW7]; exact (Blk.new w6 _ _).drew)
    have HE7 := hid (HE6.out.step n7)
    have HS7 := hid (HS2.out.new n7)
    have N7 := hid n7
    clear hW7 n7
    have q0 := HE7.out.r0.cellv 0 rfl; have q1 := HE7.out.r1.cellv 0 rfl
    have m0 := B7.out.cellv 0 rfl; have m1 := B7.out.cellv 1 rfl; have m2 := B7.out.cellv 2 rfl
    by_cases gx : t < X
    · have HGX := hid gx
      gi_wp2_with fail
      refine wp_region_round (fun w' => w'.cell? ⟨w.heap.size, 0, none⟩ = some (.pointer (some ⟨B, 0, none⟩)) ∧ w'.cell? ⟨w.heap.size + 1, 0, none⟩ = some (.int .i64 t)) (by kernel_rfl) (noDefer_spec (by kernel_rfl)) (by rintro ⟨a, w, q⟩; exact q) ⟨q0, q1⟩ (fun hHeld => ?_)
      refine tk (v := ?_) 0 ?_ ?_
      rotate_left
      · intro w hSw
        (try dsimp only at hSw)
        first | (go_simp; done) | (go_simp; with_reducible rfl) | with_reducible rfl
      simp only [Act.put, List.setIfInBounds_toArray, List.set_cons_zero, List.set_cons_succ]
      refine tk (v := ?_) 1 ?_ ?_
      rotate_left
      · intro w hSw
        (try dsimp only at hSw)
        first | (go_simp; done) | (go_simp; with_reducible rfl) | with_reducible rfl
      simp only [Act.put, List.setIfInBounds_toArray, List.set_cons_zero, List.set_cons_succ]
      refine tk (v := ?_) 3 ?_ ?_
      rotate_left
      · intro w hSw
        (try dsimp only at hSw)
        first | (go_simp; done) | (go_simp; with_reducible rfl) | with_reducible rfl
      simp only [Act.put, List.setIfInBounds_toArray, List.set_cons_zero, List.set_cons_succ]
      refine wpAnyH_ready (rs := [2]) (by kernel_rfl) (by simp) ?_
      refine AllReadyH.cons rfl (fun K hK => ?_) AllReadyH.nil
      go_simp
      (go_at_call 38; refine (HDU.out _ (HE7.out.cr.new ((Mod.refl _ _).drew))).mono ?_; rintro e w8 ⟨rfl, n8⟩; have N8 := hid ((Mod.refl (fun _ => False) W7).drew.trans n8); clear n8)
      try dsimp only
      refine hK.out _ _ ⟨New.cellv N8.out q0, New.cellv N8.out q1⟩ (fun hHeld2 => ?_)
      clear hK K
      try simp only [Act.put, List.setIfInBounds_toArray, List.set_cons_zero, List.set_cons_succ]
      refine tk (v := ?_) 4 ?_ ?_
      rotate_left
      · intro w hSw
        (try dsimp only at hSw)
        first | (go_simp; done) | (go_simp; with_reducible rfl) | with_reducible rfl
      simp only [Act.put, List.setIfInBounds_toArray, List.set_cons_zero, List.set_cons_succ]
      refine tk (v := ?_) 5 ?_ ?_
      rotate_left
      · intro w hSw
        (try dsimp only at hSw)
        first | (go_simp; done) | (go_simp; with_reducible rfl) | with_reducible rfl
      simp only [Act.put, List.setIfInBounds_toArray, List.set_cons_zero, List.set_cons_succ]
      refine sk 6 ?_
      simp only [Act.put, List.setIfInBounds_toArray, List.set_cons_zero, List.set_cons_succ]
      refine sk 7 ?_
      simp only [Act.put, List.setIfInBounds_toArray, List.set_cons_zero, List.set_cons_succ]
      refine sk 8 ?_
      simp only [Act.put, List.setIfInBounds_toArray, List.set_cons_zero, List.set_cons_succ]
      refine tk (v := ?_) 9 ?_ ?_
      rotate_left
      · intro w hSw
        (try dsimp only at hSw)
        first | (go_simp; done) | (go_simp; with_reducible rfl) | with_reducible rfl
      simp only [Act.put, List.setIfInBounds_toArray, List.set_cons_zero, List.set_cons_succ]
      refine wpAnyH_done (by kernel_rfl) ?_ _
      have HE8 := hid (HE7.out.step N8.out)
      gi_wp2
      exact ⟨HE8.out.hL, .inr ⟨rfl, T, s, rest, a', c', N, HU.out, .inl (by rw [← HX.out]; exact HGX.out), HPM.out, HV.out, HDT.out, ⟨s :: rest, HU.out⟩, HE8.out.put hPP.out⟩⟩
    · have HGX := hid gx
      have d9 : decide (t < X) = false := decide_eq_false gx
      have HVL := hid (fun W (n : New W7 W) => (Valid_any ⟨c.port, N2, c.cookie⟩ a2 c2 W ⟨by have := HO.out.port; exact ⟨show (-9223372036854775808 : Int) ≤ c.port by omega, show c.port ≤ 9223372036854775807 by omega⟩, HS7.out.new n, by have := HO.out.cook.2; show c.cookie.size ≤ maxLen; unfold maxLen; omega⟩ (HTB.out _ (New.mod (HE7.out.mod.trans n))) : Calls Tryz.prog 41 #[.agg #[.int .i64 c.port, .slice a2 N2.length c2, .string c.cookie]] W fun e w' => e = .returned (.bool (validM ⟨c.port, N2, c.cookie⟩)) ∧ New W w'))
      obtain ⟨V, hV⟩ : ∃ V, V = validM ⟨c.port, N2, c.cookie⟩ := ⟨_, rfl⟩
      have HVE := hid hV
      rw [← hV] at HVL
      clear hV
      gi_wp2_with fail
      refine wp_region_round (fun w' => w'.cell? ⟨w.heap.size, 0, none⟩ = some (.pointer (some ⟨B, 0, none⟩)) ∧ w'.cell? ⟨w.heap.size + 1, 0, none⟩ = some (.int .i64 t) ∧ w'.cell? ⟨w6.heap.size, 0, none⟩ = some (.int .i64 c.port) ∧ w'.cell? ⟨w6.heap.size, 1, none⟩ = some (.slice a2 N2.length c2) ∧ w'.cell? ⟨w6.heap.size, 2, none⟩ = some (.string c.cookie)) (by kernel_rfl) (noDefer_spec (by kernel_rfl)) (by rintro ⟨a, w, q⟩; exact q) ⟨q0, q1, m0, m1, m2⟩ (fun hHeld => ?_)
      refine tk (v := ?_) 0 ?_ ?_
      rotate_left
      · intro w hSw
        (try dsimp only at hSw)
        first | (go_simp; done) | (go_simp; with_reducible rfl) | with_reducible rfl
      simp only [Act.put, List.setIfInBounds_toArray, List.set_cons_zero, List.set_cons_succ]
      refine tk (v := ?_) 1 ?_ ?_
      rotate_left
      · intro w hSw
        (try dsimp only at hSw)
        first | (go_simp; done) | (go_simp; with_reducible rfl) | with_reducible rfl
      simp only [Act.put, List.setIfInBounds_toArray, List.set_cons_zero, List.set_cons_succ]
      refine tk (v := ?_) 3 ?_ ?_
      rotate_left
      · intro w hSw
        (try dsimp only at hSw)
        first | (go_simp; done) | (go_simp; with_reducible rfl) | with_reducible rfl
      simp only [Act.put, List.setIfInBounds_toArray, List.set_cons_zero, List.set_cons_succ]
      refine wpAnyH_ready (rs := [2]) (by kernel_rfl) (by simp) ?_
      refine AllReadyH.cons rfl (fun K hK => ?_) AllReadyH.nil
      go_simp
      (go_at_call 38; refine (HDU.out _ (HE7.out.cr.new ((Mod.refl _ _).drew))).mono ?_; rintro e w8 ⟨rfl, n8⟩; have N8 := hid ((Mod.refl (fun _ => False) W7).drew.trans n8); clear n8)
      try dsimp only
      refine hK.out _ _ ⟨New.cellv N8.out q0, New.cellv N8.out q1, New.cellv N8.out m0, New.cellv N8.out m1, New.cellv N8.out m2⟩ (fun hHeld2 => ?_)
      clear hK K
      try simp only [Act.put, List.setIfInBounds_toArray, List.set_cons_zero, List.set_cons_succ]
      refine tk (v := ?_) 4 ?_ ?_
      rotate_left
      · intro w hSw
        (try dsimp only at hSw)
        first | (go_simp; done) | (go_simp; with_reducible rfl) | with_reducible rfl
      simp only [Act.put, List.setIfInBounds_toArray, List.set_cons_zero, List.set_cons_succ]
      refine tk (v := ?_) 5 ?_ ?_
      rotate_left
      · intro w hSw
        (try dsimp only at hSw)
        first | (go_simp; done) | (go_simp; with_reducible rfl) | with_reducible rfl
      simp only [Act.put, List.setIfInBounds_toArray, List.set_cons_zero, List.set_cons_succ]
      refine tk (v := ?_) 6 ?_ ?_
      rotate_left
      · intro w hSw
        (try dsimp only at hSw)
        first | (go_simp; done) | (go_simp; with_reducible rfl) | with_reducible rfl
      simp only [Act.put, List.setIfInBounds_toArray, List.set_cons_zero, List.set_cons_succ]
      refine wpAnyH_ready (rs := [7]) (by kernel_rfl) (by simp) ?_
      refine AllReadyH.cons rfl (fun K hK => ?_) AllReadyH.nil
      go_simp
      (go_at_call 41; refine (HVL.out _ N8.out).mono ?_; rintro e w9 ⟨rfl, n9⟩; have N9 := hid (N8.out.trans n9); clear n9)
      try dsimp only
      refine hK.out _ _ ⟨New.cellv N9.out q0, New.cellv N9.out q1, New.cellv N9.out m0, New.cellv N9.out m1, New.cellv N9.out m2⟩ (fun hHeld7 => ?_)
      clear hK K
      try simp only [Act.put, List.setIfInBounds_toArray, List.set_cons_zero, List.set_cons_succ]
      refine tk (v := ?_) 8 ?_ ?_
      rotate_left
      · intro w hSw
        (try dsimp only at hSw)
        first | (go_simp; done) | (go_simp; with_reducible rfl) | with_reducible rfl
      simp only [Act.put, List.setIfInBounds_toArray, List.set_cons_zero, List.set_cons_succ]
      refine tk (v := ?_) 9 ?_ ?_
      rotate_left
      · intro w hSw
        (try dsimp only at hSw)
        first | (go_simp; done) | (go_simp; with_reducible rfl) | with_reducible rfl
      simp only [Act.put, List.setIfInBounds_toArray, List.set_cons_zero, List.set_cons_succ]
      refine wpAnyH_done (by kernel_rfl) ?_ _
      have HE9 := hid (HE7.out.step N9.out)
      cases V with
      | false =>
        gi_wp2
        exact ⟨HE9.out.hL, .inr ⟨rfl, T, s, rest, a', c', N, HU.out, .inr (by rw [← HN2.out, ← HVE.out]), HPM.out, HV.out, HDT.out, ⟨s :: rest, HU.out⟩, HE9.out.put hPP.out⟩⟩
      | true =>
        have m0 := New.cellv N9.out m0; have m1 := New.cellv N9.out m1; have m2 := New.cellv N9.out m2
        have k0 := HE9.out.r2.cellv 0 rfl; have k1 := HE9.out.r2.cellv 1 rfl; have k2 := HE9.out.r2.cellv 2 rfl; have kl := HE9.out.r2.lt
        have f0 := HE9.out.r2.frz 0; have f1 := HE9.out.r2.frz 1; have f2 := HE9.out.r2.frz 2
        gi_wp2
        refine name_worldC (p := fun W => RoundEnd _ _ _ _ _ W) (fun WA hWA => ?_)
        have hmA : Mod (fun k => k = w.heap.size + 2) w9 WA := by
          rw [hWA]
          refine Mod.set (S := fun k => k = w.heap.size + 2) ?_ ⟨w.heap.size + 2, 2, none⟩ _ (.inl rfl)
          refine Mod.set (S := fun k => k = w.heap.size + 2) ?_ ⟨w.heap.size + 2, 1, none⟩ _ (.inl rfl)
          exact Mod.set (S := fun k => k = w.heap.size + 2) (Mod.refl _ _) ⟨w.heap.size + 2, 0, none⟩ _ (.inl rfl)
        have hbA : Blk WA (w.heap.size + 2) #[.int .i64 c.port, .slice a2 N2.length c2, .string c.cookie] 34 := by
          rw [hWA]
          exact (((HE9.out.r2.set 0 _).set 1 _).set 2 _).row (by simp)
        have hlL := (Array.getElem?_eq_some_iff.1 HE3.out.hL).1
        have hEA := HE9.out.turn hPP.out hmA hbA (HS7.out.new N9.out) (fun x hx => by have := (HB2.out x hx).1; omega) (fun x hx => by have := (HB2.out x hx).2; have := N7.out.size; have := N9.out.size; omega)
        refine ⟨hEA.hL, .inl ⟨rfl, a2, c2, N2, ?_, .inr HVE.out.symm, fun x hx => ?_, ⟨rest, by rw [HU.out]; simp⟩, hEA.put hPP.out⟩⟩
        · rw [HN2.out]
          exact (sortB_perm _).trans (HPM.out.append_right [s])
        · rcases List.mem_append.1 hx with hx | hx
          · exact HDT.out x hx
          · rw [List.mem_singleton.1 hx, ← HX.out]
            have := HGX.out
            omega
  case fin =>
    rintro e W ⟨hv, hA⟩
    have hA2 : ∃ T rest a' c' N st, U = T ++ rest ∧ N.Perm T ∧ (T = [] ∨ validM ⟨c.port, N, c.cookie⟩ = true) ∧ (∀ x ∈ T, dueT c.every (c.last x) ≤ t) ∧ (∀ s r2, rest = s :: r2 → t < dueT c.every (c.last s) ∨ validM ⟨c.port, sortB (N ++ [s]), c.cookie⟩ = false) ∧ TlE w B M H c t vb a cap U D (.loop st) a' c' N W ∧ (st = rec .ready none ∨ st = rec .done (some (.exit 0))) := by
      rcases hA with ⟨a', c', N, h1, h2, h3, -, h5⟩ | ⟨T, s, rest, a', c', N, hU, hc, h1, h2, h3, -, h5⟩
      · exact ⟨U, [], a', c', N, _, by simp, h1, h2, h3, (fun s r2 q => by cases q), h5, .inl rfl⟩
      · exact ⟨T, s :: rest, a', c', N, _, hU, h1, h2, h3, (fun s' r2 q => by injection q with q1 q2; subst q1; exact hc), h5, .inr rfl⟩
    obtain ⟨T, rest, a', c', N, st, hU, h1, h2, h3, h4, h5, hst⟩ := hA2
    have HF := hid (And.intro hU (And.intro h1 (And.intro h2 (And.intro h3 h4))))
    clear hA hU h1 h2 h3 h4
    refine rangeEnd_both hv h5.hD h5.hL hst (fun _ _ q => q) (fun lo => ?_)
    refine name_worldC (p := fun W => Exit.inBlock _ _ _ _ W) (fun W5 hW5 => ?_)
    have h6 : TlE w B M H c t vb a cap U D (.loop lo) a' c' N W5 := by rw [hW5]; exact h5.put hPP.out
    clear hW5 h5 hrec henv hst hv
    have H6 := hid h6
    have q0 := h6.r0.cellv 0 rfl; have q1 := h6.r1.cellv 0 rfl
    have m1 : W5.cell? ⟨w.heap.size + 2, 1, none⟩ = some (.slice a' N.length c') := h6.r2.cellv 1 rfl
    have c5 : W5.cell? ⟨B, 5, none⟩ = some (.int .i64 c.sent) := h6.cr.row.cellv 5 rfl
    have cl := h6.cr.row.lt
    have HS1 := hid HO.out.sent; have HS2 := hid HO.out.now
    obtain ⟨sn, hsn⟩ : ∃ sn, sn = c.sent := ⟨_, rfl⟩
    have HSN := hid hsn
    have hs1 : -1 ≤ sn ∧ sn ≤ 1000000000 := by have := HS1.out; have := HS2.out; omega
    have hw : IntKind.i64.wrap (sn + 1000) = sn + 1000 := by rw [IntKind.wrap_i64]; omega
    rw [← hsn] at c5
    clear h6 hsn
    gi_wp2_with fail
    by_cases gN : N.length = 0
    · have e0 : ((N.length : Int) == 0) = true := by rw [beq_iff_eq]; omega
      have HT0 := hid (show T = [] by
        have := HF.out.2.1.length_eq
        exact List.eq_nil_of_length_eq_zero (by omega))
      clear gN
      refine wp_region_wideP (fun w' => w'.cell? ⟨w.heap.size + 2, 1, none⟩ = some (.slice a' N.length c')) (by kernel_rfl) m1 (fun hHeld => ?_)
      refine tk (v := ?_) 0 ?_ ?_
      rotate_left
      · intro w hSw
        (try dsimp only at hSw)
        first | (go_simp; done) | (go_simp; with_reducible rfl) | with_reducible rfl
      simp only [Act.put, List.setIfInBounds_toArray, List.set_cons_zero, List.set_cons_succ]
      refine tk (v := ?_) 1 ?_ ?_
      rotate_left
      · intro w hSw
        (try dsimp only at hSw)
        first | (go_simp; done) | (go_simp; with_reducible rfl) | with_reducible rfl
      simp only [Act.put, List.setIfInBounds_toArray, List.set_cons_zero, List.set_cons_succ]
      refine tk (v := ?_) 2 ?_ ?_
      rotate_left
      · intro w hSw
        (try dsimp only at hSw)
        first | (go_simp; done) | (go_simp; with_reducible rfl) | with_reducible rfl
      simp only [Act.put, List.setIfInBounds_toArray, List.set_cons_zero, List.set_cons_succ]
      refine tk (v := ?_) 3 ?_ ?_
      rotate_left
      · intro w hSw
        (try dsimp only at hSw)
        first | (go_simp; done) | (go_simp; with_reducible rfl) | with_reducible rfl
      simp only [Act.put, List.setIfInBounds_toArray, List.set_cons_zero, List.set_cons_succ]
      refine tk (v := ?_) 4 ?_ ?_
      rotate_left
      · intro w hSw
        (try dsimp only at hSw)
        first | (go_simp; done) | (go_simp; with_reducible rfl) | with_reducible rfl
      simp only [Act.put, List.setIfInBounds_toArray, List.set_cons_zero, List.set_cons_succ]
      refine sk 5 ?_
      simp only [Act.put, List.setIfInBounds_toArray, List.set_cons_zero, List.set_cons_succ]
      refine sk 6 ?_
      simp only [Act.put, List.setIfInBounds_toArray, List.set_cons_zero, List.set_cons_succ]
      refine sk 7 ?_
      simp only [Act.put, List.setIfInBounds_toArray, List.set_cons_zero, List.set_cons_succ]
      refine sk 8 ?_
      simp only [Act.put, List.setIfInBounds_toArray, List.set_cons_zero, List.set_cons_succ]
      refine sk 9 ?_
      simp only [Act.put, List.setIfInBounds_toArray, List.set_cons_zero, List.set_cons_succ]
      refine sk 10 ?_
      simp only [Act.put, List.setIfInBounds_toArray, List.set_cons_zero, List.set_cons_succ]
      refine sk 11 ?_
      simp only [Act.put, List.setIfInBounds_toArray, List.set_cons_zero, List.set_cons_succ]
      refine sk 12 ?_
      simp only [Act.put, List.setIfInBounds_toArray, List.set_cons_zero, List.set_cons_succ]
      refine sk 13 ?_
      simp only [Act.put, List.setIfInBounds_toArray, List.set_cons_zero, List.set_cons_succ]
      refine sk 14 ?_
      simp only [Act.put, List.setIfInBounds_toArray, List.set_cons_zero, List.set_cons_succ]
      refine sk 15 ?_
      simp only [Act.put, List.setIfInBounds_toArray, List.set_cons_zero, List.set_cons_succ]
      refine sk 16 ?_
      simp only [Act.put, List.setIfInBounds_toArray, List.set_cons_zero, List.set_cons_succ]
      refine sk 17 ?_
      simp only [Act.put, List.setIfInBounds_toArray, List.set_cons_zero, List.set_cons_succ]
      refine sk 18 ?_
      simp only [Act.put, List.setIfInBounds_toArray, List.set_cons_zero, List.set_cons_succ]
      refine tk (v := ?_) 19 ?_ ?_
      rotate_left
      · intro w hSw
        (try dsimp only at hSw)
        first | (go_simp; done) | (go_simp; with_reducible rfl) | with_reducible rfl
      simp only [Act.put, List.setIfInBounds_toArray, List.set_cons_zero, List.set_cons_succ]
      refine wpAnyH_done (by kernel_rfl) (noPanic_ok ?_) _
      gi_wp2
      refine name_worldC (p := fun W => bodyPostM _ _ _ _ _ _ _ W) (fun W6 hW6 => ?_)
      have D6 : W6.heap[D]? = some (.deferred (some [])) := by rw [hW6]; exact H6.out.hD
      have N6 : New w W6 := by rw [hW6]; exact H6.out.mod.drew
      clear hW6
      refine ⟨by simp, .inl ⟨_, _, rfl, run_takeDeferred D6, ?_⟩⟩
      refine ⟨.tuple #[.string ⟨#[]⟩, .int .i64 8], by simp [results, Tryz.results10, go_sem], ?_⟩
      obtain ⟨hU, h1, h2, h3, h4⟩ := HF.out
      obtain ⟨p1, p2, p3, p4, p5, p6⟩ := hPP.out
      exact ⟨U, T, rest, N, hU, HP.out, HPW.out, h1, h2, h3, h4, .inl ⟨.inl HT0.out, rfl, Mod.putObj N6 _ _ (.inr (by omega))⟩⟩
    · have e0 : ((N.length : Int) == 0) = false := by rw [beq_eq_false_iff_ne]; omega
      have HT0 := hid (show T ≠ [] by
        intro q
        have := HF.out.2.1.length_eq
        rw [q] at this
        exact gN this)
      clear gN
      by_cases gs : 0 ≤ sn
      · have e1 : decide (0 ≤ sn) = true := decide_eq_true gs
        by_cases gt : t < sn + 1000
        · have e2 : decide (t < sn + 1000) = true := decide_eq_true gt
          have HC2 := hid (show 0 ≤ c.sent ∧ t < c.sent + 1000 by rw [← HSN.out]; exact ⟨gs, gt⟩)
          refine wp_region_wideP (fun w' => w'.cell? ⟨w.heap.size, 0, none⟩ = some (.pointer (some ⟨B, 0, none⟩)) ∧ w'.cell? ⟨w.heap.size + 1, 0, none⟩ = some (.int .i64 t) ∧ w'.cell? ⟨w.heap.size + 2, 1, none⟩ = some (.slice a' N.length c') ∧ w'.cell? ⟨B, 5, none⟩ = some (.int .i64 sn)) (by kernel_rfl) ⟨q0, q1, m1, c5⟩ (fun hHeld => ?_)
          refine tk (v := ?_) 0 ?_ ?_
          rotate_left
          · intro w hSw
            (try dsimp only at hSw)
            first | (go_simp; done) | (go_simp; with_reducible rfl) | with_reducible rfl
          simp only [Act.put, List.setIfInBounds_toArray, List.set_cons_zero, List.set_cons_succ]
          refine tk (v := ?_) 1 ?_ ?_
          rotate_left
          · intro w hSw
            (try dsimp only at hSw)
            first | (go_simp; done) | (go_simp; with_reducible rfl) | with_reducible rfl
          simp only [Act.put, List.setIfInBounds_toArray, List.set_cons_zero, List.set_cons_succ]
          refine tk (v := ?_) 2 ?_ ?_
          rotate_left
          · intro w hSw
            (try dsimp only at hSw)
            first | (go_simp; done) | (go_simp; with_reducible rfl) | with_reducible rfl
          simp only [Act.put, List.setIfInBounds_toArray, List.set_cons_zero, List.set_cons_succ]
          refine tk (v := ?_) 3 ?_ ?_
          rotate_left
          · intro w hSw
            (try dsimp only at hSw)
            first | (go_simp; done) | (go_simp; with_reducible rfl) | with_reducible rfl
          simp only [Act.put, List.setIfInBounds_toArray, List.set_cons_zero, List.set_cons_succ]
          refine tk (v := ?_) 4 ?_ ?_
          rotate_left
          · intro w hSw
            (try dsimp only at hSw)
            first | (go_simp; done) | (go_simp; with_reducible rfl) | with_reducible rfl
          simp only [Act.put, List.setIfInBounds_toArray, List.set_cons_zero, List.set_cons_succ]
          refine tk (v := ?_) 5 ?_ ?_
          rotate_left
          · intro w hSw
            (try dsimp only at hSw)
            first | (go_simp; done) | (go_simp; with_reducible rfl) | with_reducible rfl
          simp only [Act.put, List.setIfInBounds_toArray, List.set_cons_zero, List.set_cons_succ]
          refine tk (v := ?_) 6 ?_ ?_
          rotate_left
          · intro w hSw
            (try dsimp only at hSw)
            first | (go_simp; done) | (go_simp; with_reducible rfl) | with_reducible rfl
          simp only [Act.put, List.setIfInBounds_toArray, List.set_cons_zero, List.set_cons_succ]
          refine tk (v := ?_) 7 ?_ ?_
          rotate_left
          · intro w hSw
            (try dsimp only at hSw)
            first | (go_simp; done) | (go_simp; with_reducible rfl) | with_reducible rfl
          simp only [Act.put, List.setIfInBounds_toArray, List.set_cons_zero, List.set_cons_succ]
          refine tk (v := ?_) 8 ?_ ?_
          rotate_left
          · intro w hSw
            (try dsimp only at hSw)
            first | (go_simp; done) | (go_simp; with_reducible rfl) | with_reducible rfl
          simp only [Act.put, List.setIfInBounds_toArray, List.set_cons_zero, List.set_cons_succ]
          refine tk (v := ?_) 9 ?_ ?_
          rotate_left
          · intro w hSw
            (try dsimp only at hSw)
            first | (go_simp; done) | (go_simp; with_reducible rfl) | with_reducible rfl
          simp only [Act.put, List.setIfInBounds_toArray, List.set_cons_zero, List.set_cons_succ]
          refine tk (v := ?_) 10 ?_ ?_
          rotate_left
          · intro w hSw
            (try dsimp only at hSw)
            first | (go_simp; done) | (go_simp; with_reducible rfl) | with_reducible rfl
          simp only [Act.put, List.setIfInBounds_toArray, List.set_cons_zero, List.set_cons_succ]
          refine tk (v := ?_) 11 ?_ ?_
          rotate_left
          · intro w hSw
            (try dsimp only at hSw)
            first | (go_simp; done) | (go_simp; with_reducible rfl) | with_reducible rfl
          simp only [Act.put, List.setIfInBounds_toArray, List.set_cons_zero, List.set_cons_succ]
          refine tk (v := ?_) 12 ?_ ?_
          rotate_left
          · intro w hSw
            (try dsimp only at hSw)
            first | (go_simp; done) | (go_simp; with_reducible rfl) | with_reducible rfl
          simp only [Act.put, List.setIfInBounds_toArray, List.set_cons_zero, List.set_cons_succ]
          refine tk (v := ?_) 13 ?_ ?_
          rotate_left
          · intro w hSw
            (try dsimp only at hSw)
            first | (go_simp; done) | (go_simp; with_reducible rfl) | with_reducible rfl
          simp only [Act.put, List.setIfInBounds_toArray, List.set_cons_zero, List.set_cons_succ]
          refine tk (v := ?_) 14 ?_ ?_
          rotate_left
          · intro w hSw
            (try dsimp only at hSw)
            first | (go_simp; done) | (go_simp; with_reducible rfl) | with_reducible rfl
          simp only [Act.put, List.setIfInBounds_toArray, List.set_cons_zero, List.set_cons_succ]
          refine tk (v := ?_) 15 ?_ ?_
          rotate_left
          · intro w hSw
            (try dsimp only at hSw)
            first | (go_simp; done) | (go_simp; with_reducible rfl) | with_reducible rfl
          simp only [Act.put, List.setIfInBounds_toArray, List.set_cons_zero, List.set_cons_succ]
          refine tk (v := ?_) 16 ?_ ?_
          rotate_left
          · intro w hSw
            (try dsimp only at hSw)
            first | (go_simp; done) | (go_simp; with_reducible rfl) | with_reducible rfl
          simp only [Act.put, List.setIfInBounds_toArray, List.set_cons_zero, List.set_cons_succ]
          refine tk (v := ?_) 17 ?_ ?_
          rotate_left
          · intro w hSw
            (try dsimp only at hSw)
            first | (go_simp; done) | (go_simp; with_reducible rfl) | with_reducible rfl
          simp only [Act.put, List.setIfInBounds_toArray, List.set_cons_zero, List.set_cons_succ]
          refine tk (v := ?_) 18 ?_ ?_
          rotate_left
          · intro w hSw
            (try dsimp only at hSw)
            first | (go_simp; done) | (go_simp; with_reducible rfl) | with_reducible rfl
          simp only [Act.put, List.setIfInBounds_toArray, List.set_cons_zero, List.set_cons_succ]
          refine tk (v := ?_) 19 ?_ ?_
          rotate_left
          · intro w hSw
            (try dsimp only at hSw)
            first | (go_simp; done) | (go_simp; with_reducible rfl) | with_reducible rfl
          simp only [Act.put, List.setIfInBounds_toArray, List.set_cons_zero, List.set_cons_succ]
          refine wpAnyH_done (by kernel_rfl) (noPanic_ok ?_) _
          gi_wp2
          refine name_worldC (p := fun W => bodyPostM _ _ _ _ _ _ _ W) (fun W6 hW6 => ?_)
          have D6 : W6.heap[D]? = some (.deferred (some [])) := by rw [hW6]; exact H6.out.hD
          have N6 : New w W6 := by rw [hW6]; exact H6.out.mod.drew
          clear hW6
          refine ⟨by simp, .inl ⟨_, _, rfl, run_takeDeferred D6, ?_⟩⟩
          refine ⟨.tuple #[.string ⟨#[]⟩, .int .i64 8], by simp [results, Tryz.results10, go_sem], ?_⟩
          obtain ⟨hU, h1, h2, h3, h4⟩ := HF.out
          obtain ⟨p1, p2, p3, p4, p5, p6⟩ := hPP.out
          exact ⟨U, T, rest, N, hU, HP.out, HPW.out, h1, h2, h3, h4, .inl ⟨.inr HC2.out, rfl, Mod.putObj N6 _ _ (.inr (by omega))⟩⟩
        · have e2 : decide (t < sn + 1000) = false := decide_eq_false gt
          have HC2 := hid (show ¬ (0 ≤ c.sent ∧ t < c.sent + 1000) by rw [← HSN.out]; exact fun q => gt q.2)
          refine wp_region_wideP (fun w' => w'.cell? ⟨w.heap.size, 0, none⟩ = some (.pointer (some ⟨B, 0, none⟩)) ∧ w'.cell? ⟨w.heap.size + 1, 0, none⟩ = some (.int .i64 t) ∧ w'.cell? ⟨w.heap.size + 2, 1, none⟩ = some (.slice a' N.length c') ∧ w'.cell? ⟨B, 5, none⟩ = some (.int .i64 sn)) (by kernel_rfl) ⟨q0, q1, m1, c5⟩ (fun hHeld => ?_)
          refine tk (v := ?_) 0 ?_ ?_
          rotate_left
          · intro w hSw
            (try dsimp only at hSw)
            first | (go_simp; done) | (go_simp; with_reducible rfl) | with_reducible rfl
          simp only [Act.put, List.setIfInBounds_toArray, List.set_cons_zero, List.set_cons_succ]
          refine tk (v := ?_) 1 ?_ ?_
          rotate_left
          · intro w hSw
            (try dsimp only at hSw)
            first | (go_simp; done) | (go_simp; with_reducible rfl) | with_reducible rfl
          simp only [Act.put, List.setIfInBounds_toArray, List.set_cons_zero, List.set_cons_succ]
          refine tk (v := ?_) 2 ?_ ?_
          rotate_left
          · intro w hSw
            (try dsimp only at hSw)
            first | (go_simp; done) | (go_simp; with_reducible rfl) | with_reducible rfl
          simp only [Act.put, List.setIfInBounds_toArray, List.set_cons_zero, List.set_cons_succ]
          refine tk (v := ?_) 3 ?_ ?_
          rotate_left
          · intro w hSw
            (try dsimp only at hSw)
            first | (go_simp; done) | (go_simp; with_reducible rfl) | with_reducible rfl
          simp only [Act.put, List.setIfInBounds_toArray, List.set_cons_zero, List.set_cons_succ]
          refine tk (v := ?_) 4 ?_ ?_
          rotate_left
          · intro w hSw
            (try dsimp only at hSw)
            first | (go_simp; done) | (go_simp; with_reducible rfl) | with_reducible rfl
          simp only [Act.put, List.setIfInBounds_toArray, List.set_cons_zero, List.set_cons_succ]
          refine tk (v := ?_) 5 ?_ ?_
          rotate_left
          · intro w hSw
            (try dsimp only at hSw)
            first | (go_simp; done) | (go_simp; with_reducible rfl) | with_reducible rfl
          simp only [Act.put, List.setIfInBounds_toArray, List.set_cons_zero, List.set_cons_succ]
          refine tk (v := ?_) 6 ?_ ?_
          rotate_left
          · intro w hSw
            (try dsimp only at hSw)
            first | (go_simp; done) | (go_simp; with_reducible rfl) | with_reducible rfl
          simp only [Act.put, List.setIfInBounds_toArray, List.set_cons_zero, List.set_cons_succ]
          refine tk (v := ?_) 7 ?_ ?_
          rotate_left
          · intro w hSw
            (try dsimp only at hSw)
            first | (go_simp; done) | (go_simp; with_reducible rfl) | with_reducible rfl
          simp only [Act.put, List.setIfInBounds_toArray, List.set_cons_zero, List.set_cons_succ]
          refine tk (v := ?_) 8 ?_ ?_
          rotate_left
          · intro w hSw
            (try dsimp only at hSw)
            first | (go_simp; done) | (go_simp; with_reducible rfl) | with_reducible rfl
          simp only [Act.put, List.setIfInBounds_toArray, List.set_cons_zero, List.set_cons_succ]
          refine tk (v := ?_) 9 ?_ ?_
          rotate_left
          · intro w hSw
            (try dsimp only at hSw)
            first | (go_simp; done) | (go_simp; with_reducible rfl) | with_reducible rfl
          simp only [Act.put, List.setIfInBounds_toArray, List.set_cons_zero, List.set_cons_succ]
          refine tk (v := ?_) 10 ?_ ?_
          rotate_left
          · intro w hSw
            (try dsimp only at hSw)
            first | (go_simp; done) | (go_simp; with_reducible rfl) | with_reducible rfl
          simp only [Act.put, List.setIfInBounds_toArray, List.set_cons_zero, List.set_cons_succ]
          refine tk (v := ?_) 11 ?_ ?_
          rotate_left
          · intro w hSw
            (try dsimp only at hSw)
            first | (go_simp; done) | (go_simp; with_reducible rfl) | with_reducible rfl
          simp only [Act.put, List.setIfInBounds_toArray, List.set_cons_zero, List.set_cons_succ]
          refine tk (v := ?_) 12 ?_ ?_
          rotate_left
          · intro w hSw
            (try dsimp only at hSw)
            first | (go_simp; done) | (go_simp; with_reducible rfl) | with_reducible rfl
          simp only [Act.put, List.setIfInBounds_toArray, List.set_cons_zero, List.set_cons_succ]
          refine tk (v := ?_) 13 ?_ ?_
          rotate_left
          · intro w hSw
            (try dsimp only at hSw)
            first | (go_simp; done) | (go_simp; with_reducible rfl) | with_reducible rfl
          simp only [Act.put, List.setIfInBounds_toArray, List.set_cons_zero, List.set_cons_succ]
          refine tk (v := ?_) 14 ?_ ?_
          rotate_left
          · intro w hSw
            (try dsimp only at hSw)
            first | (go_simp; done) | (go_simp; with_reducible rfl) | with_reducible rfl
          simp only [Act.put, List.setIfInBounds_toArray, List.set_cons_zero, List.set_cons_succ]
          refine tk (v := ?_) 15 ?_ ?_
          rotate_left
          · intro w hSw
            (try dsimp only at hSw)
            first | (go_simp; done) | (go_simp; with_reducible rfl) | with_reducible rfl
          simp only [Act.put, List.setIfInBounds_toArray, List.set_cons_zero, List.set_cons_succ]
          refine tk (v := ?_) 16 ?_ ?_
          rotate_left
          · intro w hSw
            (try dsimp only at hSw)
            first | (go_simp; done) | (go_simp; with_reducible rfl) | with_reducible rfl
          simp only [Act.put, List.setIfInBounds_toArray, List.set_cons_zero, List.set_cons_succ]
          refine tk (v := ?_) 17 ?_ ?_
          rotate_left
          · intro w hSw
            (try dsimp only at hSw)
            first | (go_simp; done) | (go_simp; with_reducible rfl) | with_reducible rfl
          simp only [Act.put, List.setIfInBounds_toArray, List.set_cons_zero, List.set_cons_succ]
          refine tk (v := ?_) 18 ?_ ?_
          rotate_left
          · intro w hSw
            (try dsimp only at hSw)
            first | (go_simp; done) | (go_simp; with_reducible rfl) | with_reducible rfl
          simp only [Act.put, List.setIfInBounds_toArray, List.set_cons_zero, List.set_cons_succ]
          refine tk (v := ?_) 19 ?_ ?_
          rotate_left
          · intro w hSw
            (try dsimp only at hSw)
            first | (go_simp; done) | (go_simp; with_reducible rfl) | with_reducible rfl
          simp only [Act.put, List.setIfInBounds_toArray, List.set_cons_zero, List.set_cons_succ]
          refine wpAnyH_done (by kernel_rfl) (noPanic_ok ?_) _
          refine name_worldC (p := fun W => Exit.then _ _ _ _ W) (fun W6 hW6 => ?_)
          have n6 : New W5 W6 := by rw [hW6]; exact (Mod.refl _ _).drew
          have H7 := hid (H6.out.step n6)
          clear hW6 n6 q0 q1 m1 c5 cl hHeld
          obtain ⟨p1, p2, p3, p4, p5, p6⟩ := hPP.out
          have apB := H7.out.cr.apart.1
          have m1 : W6.cell? ⟨w.heap.size + 2, 1, none⟩ = some (.slice a' N.length c') := H7.out.r2.cellv 1 rfl
          have HMEM : Hid (∀ s ∈ N, s ∈ c.all) := hid (fun s hs => by
            have hU := HF.out.1
            have h1 := HF.out.2.1
            exact HP.out.mem_iff.1 (by rw [hU]; exact List.mem_append_left _ (h1.mem_iff.1 hs)))
          have hNl2 : N.length ≤ 200 := by
            have h1 := HF.out.2.1.length_eq
            have h2 := HP.out.length_eq
            have h3 := congrArg List.length HF.out.1
            have := HO.out.few
            rw [List.length_append] at h3
            omega
          gi_wp2_with fail
          clear m1
          gi_loopw [87] (fun i wr => ∃ (k : Nat), i = .int .i64 k ∧ k ≤ N.length ∧ NumsM wr M c.all ((N.take k).foldl (fun f x => upd f x t) c.last) ∧ Mod (· = M) W6 wr) (fun i _ => N.length - (intOf i).toNat)
          case atStart => exact ⟨0, rfl, by omega, H7.out.cr.names, Mod.refl _ _⟩
          case round =>
            obtain ⟨k, rfl, hk, hnm, hmm⟩ := hrel
            have HNM := hid hnm; have HMM := hid hmm
            have r0 := hmm.blk H7.out.r0 (by omega); have r1 := hmm.blk H7.out.r1 (by omega); have rb := hmm.blk H7.out.cr.row (fun q => apB q.symm)
            have q0 := r0.cellv 0 rfl; have q1 := r1.cellv 0 rfl
            have c4 : wr.cell? ⟨B, 4, none⟩ = some (.map (some M)) := rb.cellv 4 rfl
            have cl := rb.lt
            have HRB := hid rb
            by_cases hlt : k < N.length
            · have hns := H7.out.ns.ofBlock (w' := wr) (fun x hx => by
                have h1 := H7.out.nb x hx
                by_cases hxs : x.block < W6.heap.size
                · exact hmm.block _ hxs (by omega)
                · obtain ⟨b, o, e, hb, -⟩ := H7.out.ns.get (by omega)
                  rw [e] at hx
                  injection hx with hx
                  rw [← hx] at hxs
                  exact absurd hb hxs) hmm.size
              obtain ⟨bb, oo, rfl, hbb, hcc⟩ := hns.get (by omega)
              have g0 := hcc k hlt
              obtain ⟨s, hs⟩ : ∃ s, s = N[k] := ⟨_, rfl⟩
              have hmem := HMEM.out s (by rw [hs]; exact List.getElem_mem _)
              have HTK := hid (show N.take (k + 1) = N.take k ++ [s] by rw [List.take_succ_eq_append_getElem hlt, ← hs])
              rw [← hs] at g0
              obtain ⟨wA, hup, hnA, hmA⟩ := (hnm.new (Mod.drew (Mod.refl _ _))).put_there hmem t
              have HNA := hid hnA
              have HMA : Hid (Mod (· = M) wr wA) := hid ((Mod.refl (fun k => k = M) wr).drew.trans hmA)
              have qa0 := (HMA.out.blk r0 (by omega)).cellv 0 rfl; have qa1 := (HMA.out.blk r1 (by omega)).cellv 0 rfl
              have ca4 : wA.cell? ⟨B, 4, none⟩ = some (.map (some M)) := (HMA.out.blk rb (fun q => apB q.symm)).cellv 4 rfl
              clear hns hcc hs hmem hnm hmm hnA hmA r0 r1 rb
              gi_wp2_with fail
              refine wp_region_wideP (fun w' => w'.cell? ⟨w.heap.size, 0, none⟩ = some (.pointer (some ⟨B, 0, none⟩)) ∧ w'.cell? ⟨w.heap.size + 1, 0, none⟩ = some (.int .i64 t) ∧ w'.cell? ⟨B, 4, none⟩ = some (.map (some M))) (by kernel_rfl) ⟨q0, q1, c4⟩ (fun hHeld => ?_)
              refine tk (v := ?_) 0 ?_ ?_
              rotate_left
              · intro w hSw
                (try dsimp only at hSw)
                first | (go_simp; done) | (go_simp; with_reducible rfl) | with_reducible rfl
              simp only [Act.put, List.setIfInBounds_toArray, List.set_cons_zero, List.set_cons_succ]
              refine tk (v := ?_) 1 ?_ ?_
              rotate_left
              · intro w hSw
                (try dsimp only at hSw)
                first | (go_simp; done) | (go_simp; with_reducible rfl) | with_reducible rfl
              simp only [Act.put, List.setIfInBounds_toArray, List.set_cons_zero, List.set_cons_succ]
              refine tk (v := ?_) 2 ?_ ?_
              rotate_left
              · intro w hSw
                (try dsimp only at hSw)
                first | (go_simp; done) | (go_simp; with_reducible rfl) | with_reducible rfl
              simp only [Act.put, List.setIfInBounds_toArray, List.set_cons_zero, List.set_cons_succ]
              refine tk (v := ?_) 3 ?_ ?_
              rotate_left
              · intro w hSw
                (try dsimp only at hSw)
                first | (go_simp; done) | (go_simp; with_reducible rfl) | with_reducible rfl
              simp only [Act.put, List.setIfInBounds_toArray, List.set_cons_zero, List.set_cons_succ]
              refine tk (v := ?_) 4 ?_ ?_
              rotate_left
              · intro w hSw
                (try dsimp only at hSw)
                first | (go_simp; done) | (go_simp; with_reducible rfl) | with_reducible rfl
              simp only [Act.put, List.setIfInBounds_toArray, List.set_cons_zero, List.set_cons_succ]
              refine tk (v := ?_) 5 ?_ ?_
              rotate_left
              · intro w hSw
                (try dsimp only at hSw)
                first | (go_simp; done) | (go_simp; with_reducible rfl) | with_reducible rfl
              simp only [Act.put, List.setIfInBounds_toArray, List.set_cons_zero, List.set_cons_succ]
              refine wpAnyH_ready (rs := [6]) (by kernel_rfl) (by simp) ?_
              refine AllReadyH.cons (by simp only [List.getElem?_toArray, List.getElem?_cons_succ, List.getElem?_cons_zero]; rfl) (fun K hK => ?_) AllReadyH.nil
              go_simp
              refine hK.out _ _ ⟨qa0, qa1, ca4⟩ (fun hHeld6 => ?_)
              clear hK K
              try simp only [Act.put, List.setIfInBounds_toArray, List.set_cons_zero, List.set_cons_succ]
              refine wpAnyH_done (by kernel_rfl) (noPanic_ok ?_) _
              gi_wp2
              go_roundw
              case rel => exact ⟨k + 1, by simp, by omega, by rw [HTK.out, List.foldl_append]; exact HNA.out, HMM.out.trans HMA.out⟩
              case measure => simp [intOf]; omega
            · obtain rfl : k = N.length := by omega
              rw [List.take_length] at HNM
              have c5 : wr.cell? ⟨B, 5, none⟩ = some (.int .i64 c.sent) := rb.cellv 5 rfl
              have c0 : wr.cell? ⟨B, 0, none⟩ = some (.int .i64 c.now) := rb.cellv 0 rfl
              have f5 := rb.frz 5; have f0 := rb.frz 0
              clear hnm hmm r0 r1 rb c4
              gi_wp2_with fail
              have s0 : ∀ v, (wr.drew.setCell ⟨B, 5, none⟩ v).cell? ⟨w.heap.size, 0, none⟩ = some (.pointer (some ⟨B, 0, none⟩)) := fun v => cell_off (by show w.heap.size ≠ B; omega) q0
              have s1 : ∀ v, (wr.drew.setCell ⟨B, 5, none⟩ v).cell? ⟨w.heap.size + 1, 0, none⟩ = some (.int .i64 t) := fun v => cell_off (by show w.heap.size + 1 ≠ B; omega) q1
              have u0 : ∀ v u, ((wr.drew.setCell ⟨B, 5, none⟩ v).setCell ⟨B, 0, none⟩ u).cell? ⟨w.heap.size, 0, none⟩ = some (.pointer (some ⟨B, 0, none⟩)) := fun v u => cell_off (by show w.heap.size ≠ B; omega) (s0 v)
              have u1 : ∀ v u, ((wr.drew.setCell ⟨B, 5, none⟩ v).setCell ⟨B, 0, none⟩ u).cell? ⟨w.heap.size + 1, 0, none⟩ = some (.int .i64 t) := fun v u => cell_off (by show w.heap.size + 1 ≠ B; omega) (s1 v)
              refine wp_region_wideP (fun w' => w'.cell? ⟨w.heap.size, 0, none⟩ = some (.pointer (some ⟨B, 0, none⟩)) ∧ w'.cell? ⟨w.heap.size + 1, 0, none⟩ = some (.int .i64 t)) (by kernel_rfl) ⟨q0, q1⟩ (fun hHeld => ?_)
              refine tk (v := ?_) 0 ?_ ?_
              rotate_left
              · intro w hSw
                (try dsimp only at hSw)
                first | (go_simp; done) | (go_simp; with_reducible rfl) | with_reducible rfl
              simp only [Act.put, List.setIfInBounds_toArray, List.set_cons_zero, List.set_cons_succ]
              refine tk (v := ?_) 1 ?_ ?_
              rotate_left
              · intro w hSw
                (try dsimp only at hSw)
                first | (go_simp; done) | (go_simp; with_reducible rfl) | with_reducible rfl
              simp only [Act.put, List.setIfInBounds_toArray, List.set_cons_zero, List.set_cons_succ]
              refine tk (v := ?_) 2 ?_ ?_
              rotate_left
              · intro w hSw
                (try dsimp only at hSw)
                first | (go_simp; done) | (go_simp; with_reducible rfl) | with_reducible rfl
              simp only [Act.put, List.setIfInBounds_toArray, List.set_cons_zero, List.set_cons_succ]
              refine tk (v := ?_) 3 ?_ ?_
              rotate_left
              · intro w hSw
                (try dsimp only at hSw)
                first | (go_simp; done) | (go_simp; with_reducible rfl) | with_reducible rfl
              simp only [Act.put, List.setIfInBounds_toArray, List.set_cons_zero, List.set_cons_succ]
              refine tk (v := ?_) 4 ?_ ?_
              rotate_left
              · intro w hSw
                (try dsimp only at hSw)
                first | (go_simp; done) | (go_simp; with_reducible rfl) | with_reducible rfl
              simp only [Act.put, List.setIfInBounds_toArray, List.set_cons_zero, List.set_cons_succ]
              refine tk (v := ?_) 5 ?_ ?_
              rotate_left
              · intro w hSw
                (try dsimp only at hSw)
                first | (go_simp; done) | (go_simp; with_reducible rfl) | with_reducible rfl
              simp only [Act.put, List.setIfInBounds_toArray, List.set_cons_zero, List.set_cons_succ]
              refine wpAnyH_ready (rs := [6]) (by kernel_rfl) (by simp) ?_
              refine AllReadyH.cons (by simp only [List.getElem?_toArray, List.getElem?_cons_succ, List.getElem?_cons_zero]; rfl) (fun K hK => ?_) AllReadyH.nil
              go_simp
              refine hK.out _ _ ⟨s0 _, s1 _⟩ (fun hHeld6 => ?_)
              clear hK K
              try simp only [Act.put, List.setIfInBounds_toArray, List.set_cons_zero, List.set_cons_succ]
              refine tk (v := ?_) 7 ?_ ?_
              rotate_left
              · intro w hSw
                (try dsimp only at hSw)
                first | (go_simp; done) | (go_simp; with_reducible rfl) | with_reducible rfl
              simp only [Act.put, List.setIfInBounds_toArray, List.set_cons_zero, List.set_cons_succ]
              refine tk (v := ?_) 8 ?_ ?_
              rotate_left
              · intro w hSw
                (try dsimp only at hSw)
                first | (go_simp; done) | (go_simp; with_reducible rfl) | with_reducible rfl
              simp only [Act.put, List.setIfInBounds_toArray, List.set_cons_zero, List.set_cons_succ]
              refine tk (v := ?_) 9 ?_ ?_
              rotate_left
              · intro w hSw
                (try dsimp only at hSw)
                first | (go_simp; done) | (go_simp; with_reducible rfl) | with_reducible rfl
              simp only [Act.put, List.setIfInBounds_toArray, List.set_cons_zero, List.set_cons_succ]
              refine wpAnyH_ready (rs := [10]) (by kernel_rfl) (by simp) ?_
              refine AllReadyH.cons (by simp only [List.getElem?_toArray, List.getElem?_cons_succ, List.getElem?_cons_zero]; rfl) (fun K hK => ?_) AllReadyH.nil
              go_simp
              refine hK.out _ _ ⟨u0 _ _, u1 _ _⟩ (fun hHeld10 => ?_)
              clear hK K
              try simp only [Act.put, List.setIfInBounds_toArray, List.set_cons_zero, List.set_cons_succ]
              refine wpAnyH_done (by kernel_rfl) (noPanic_ok ?_) _
              refine name_worldC (p := fun W => Exit.then _ _ _ _ W) (fun W8 hW8 => ?_)
              have hm8 : Mod (fun k => k = B) wr W8 := by
                rw [hW8]
                refine Mod.drew ?_
                refine Mod.set (S := fun k => k = B) ?_ ⟨B, 0, none⟩ _ (.inl rfl)
                exact Mod.set (S := fun k => k = B) (Mod.refl _ _) ⟨B, 5, none⟩ _ (.inl rfl)
              have hb8 : Blk W8 B (crRow M H (c.tellC t N)) 64 := by
                rw [hW8]
                exact (((HRB.out.set 5 _).set 0 _).row (by simp [crRow, CrV.tellC])).drew
              have HM8 : Hid (Mod (fun k => k = B ∨ k = M) W6 W8) := hid ((HMM.out.mono (S' := fun k => k = B ∨ k = M) (fun i _ q => .inr q)).trans' hm8 (fun i _ q => .inl q))
              have HB8 := hid hb8
              have HN8 : Hid (NumsM W8 M c.all (N.foldl (fun f x => upd f x t) c.last)) := hid (HNM.out.mod hm8 apB)
              have r2 := HM8.out.blk H7.out.r2 (by omega)
              have m0 := r2.cellv 0 rfl; have m1 := r2.cellv 1 rfl; have m2 := r2.cellv 2 rfl
              have hns := H7.out.ns.ofBlock (w' := W8) (fun x hx => by
                have h1 := H7.out.nb x hx
                by_cases hxs : x.block < W6.heap.size
                · exact HM8.out.block _ hxs (by omega)
                · rcases H7.out.ns.at' with q | ⟨b, o, e, hb, -⟩
                  · have h5 := HF.out.2.1
                    rw [q] at h5
                    exact absurd h5.symm.eq_nil HT0.out
                  · rw [e] at hx
                    injection hx with hx
                    rw [← hx] at hxs
                    exact absurd hb hxs) HM8.out.size
              have hvm : validM ⟨c.port, N, c.cookie⟩ = true := by
                rcases HF.out.2.2.1 with q | q
                · exact absurd q HT0.out
                · exact q
              have HWR := hid (written_any ⟨c.port, N, c.cookie⟩ a' c' W8 hvm hns (HTB.out _ ((New.mod H7.out.mod).trans HM8.out)) : Calls Tryz.prog 42 #[.agg #[.int .i64 c.port, .slice a' N.length c', .string c.cookie]] W8 fun e w' => e = .returned (.string (mkB (writtenL ⟨c.port, N, c.cookie⟩))) ∧ New W8 w')
              obtain ⟨OUT, hOUT⟩ : ∃ OUT, OUT = mkB (writtenL ⟨c.port, N, c.cookie⟩) := ⟨_, rfl⟩
              have HOUT := hid hOUT
              rw [← hOUT] at HWR
              clear hW8 hm8 hb8 r2 hns hvm hOUT hHeld hHeld6 hHeld10 s0 s1 u0 u1 q0 q1 c0 c5 f0 f5 cl
              gi_wp2_with (refine ⟨trivial, ?_⟩; gi_at_call 42; refine (callsIn_wide.2 HWR.out).mono ?_; rintro e w9 ⟨rfl, n9⟩)
              have HMF : Hid (Mod (fun k => k = B ∨ k = M ∨ k = D) W6 (w9.putObj D (.deferred none))) := hid (((HM8.out.mono (S' := fun k => k = B ∨ k = M ∨ k = D) (fun i _ q => by omega)).trans' n9 (fun i _ q => q.elim)).putObj D _ (.inl (.inr (.inr rfl))))
              have D9 : w9.heap[D]? = some (.deferred (some [])) := (n9.block _ (Nat.lt_of_lt_of_le (Array.getElem?_eq_some_iff.1 H7.out.hD).1 HM8.out.size) (fun q => q)).trans ((HM8.out.block D (Array.getElem?_eq_some_iff.1 H7.out.hD).1 (by omega)).trans H7.out.hD)
              refine ⟨by simp, .inl ⟨_, _, rfl, run_takeDeferred D9, ?_⟩⟩
              refine ⟨.tuple #[.string OUT, .int .i64 0], by simp [results, Tryz.results10, go_sem], ?_⟩
              have hpd : Mod (fun k => k = D) w9 (w9.putObj D (.deferred none)) := Mod.putObj (Mod.refl _ _) _ _ (.inl rfl)
              have ap2 := H7.out.cr.apart.2.1; have ap3 := H7.out.cr.apart.2.2
              have hcr : CrAt (w9.putObj D (.deferred none)) B M H (c.tellC t N) := ⟨hpd.blk (New.blk n9 HB8.out) (by omega), (HN8.out.new n9).mod hpd (by omega), H7.out.cr.hears.mod HMF.out (by omega), H7.out.cr.apart⟩
              obtain ⟨hU, h1, h2, h3, h4⟩ := HF.out
              exact ⟨U, T, rest, N, hU, HP.out, HPW.out, h1, h2, h3, h4, .inr ⟨HT0.out, HC2.out, by rw [HOUT.out], hcr, (New.mod (S := fun k => k = B ∨ k = M) H7.out.mod).trans' HMF.out (fun i hi q => by omega)⟩⟩
      · have e1 : decide (0 ≤ sn) = false := decide_eq_false gs
        have HC2 := hid (show ¬ (0 ≤ c.sent ∧ t < c.sent + 1000) by rw [← HSN.out]; exact fun q => gs q.1)
        refine wp_region_wideP (fun w' => w'.cell? ⟨w.heap.size, 0, none⟩ = some (.pointer (some ⟨B, 0, none⟩)) ∧ w'.cell? ⟨w.heap.size + 2, 1, none⟩ = some (.slice a' N.length c') ∧ w'.cell? ⟨B, 5, none⟩ = some (.int .i64 sn)) (by kernel_rfl) ⟨q0, m1, c5⟩ (fun hHeld => ?_)
        refine tk (v := ?_) 0 ?_ ?_
        rotate_left
        · intro w hSw
          (try dsimp only at hSw)
          first | (go_simp; done) | (go_simp; with_reducible rfl) | with_reducible rfl
        simp only [Act.put, List.setIfInBounds_toArray, List.set_cons_zero, List.set_cons_succ]
        refine tk (v := ?_) 1 ?_ ?_
        rotate_left
        · intro w hSw
          (try dsimp only at hSw)
          first | (go_simp; done) | (go_simp; with_reducible rfl) | with_reducible rfl
        simp only [Act.put, List.setIfInBounds_toArray, List.set_cons_zero, List.set_cons_succ]
        refine tk (v := ?_) 2 ?_ ?_
        rotate_left
        · intro w hSw
          (try dsimp only at hSw)
          first | (go_simp; done) | (go_simp; with_reducible rfl) | with_reducible rfl
        simp only [Act.put, List.setIfInBounds_toArray, List.set_cons_zero, List.set_cons_succ]
        refine tk (v := ?_) 3 ?_ ?_
        rotate_left
        · intro w hSw
          (try dsimp only at hSw)
          first | (go_simp; done) | (go_simp; with_reducible rfl) | with_reducible rfl
        simp only [Act.put, List.setIfInBounds_toArray, List.set_cons_zero, List.set_cons_succ]
        refine tk (v := ?_) 4 ?_ ?_
        rotate_left
        · intro w hSw
          (try dsimp only at hSw)
          first | (go_simp; done) | (go_simp; with_reducible rfl) | with_reducible rfl
        simp only [Act.put, List.setIfInBounds_toArray, List.set_cons_zero, List.set_cons_succ]
        refine tk (v := ?_) 5 ?_ ?_
        rotate_left
        · intro w hSw
          (try dsimp only at hSw)
          first | (go_simp; done) | (go_simp; with_reducible rfl) | with_reducible rfl
        simp only [Act.put, List.setIfInBounds_toArray, List.set_cons_zero, List.set_cons_succ]
        refine tk (v := ?_) 6 ?_ ?_
        rotate_left
        · intro w hSw
          (try dsimp only at hSw)
          first | (go_simp; done) | (go_simp; with_reducible rfl) | with_reducible rfl
        simp only [Act.put, List.setIfInBounds_toArray, List.set_cons_zero, List.set_cons_succ]
        refine tk (v := ?_) 7 ?_ ?_
        rotate_left
        · intro w hSw
          (try dsimp only at hSw)
          first | (go_simp; done) | (go_simp; with_reducible rfl) | with_reducible rfl
        simp only [Act.put, List.setIfInBounds_toArray, List.set_cons_zero, List.set_cons_succ]
        refine tk (v := ?_) 8 ?_ ?_
        rotate_left
        · intro w hSw
          (try dsimp only at hSw)
          first | (go_simp; done) | (go_simp; with_reducible rfl) | with_reducible rfl
        simp only [Act.put, List.setIfInBounds_toArray, List.set_cons_zero, List.set_cons_succ]
        refine tk (v := ?_) 9 ?_ ?_
        rotate_left
        · intro w hSw
          (try dsimp only at hSw)
          first | (go_simp; done) | (go_simp; with_reducible rfl) | with_reducible rfl
        simp only [Act.put, List.setIfInBounds_toArray, List.set_cons_zero, List.set_cons_succ]
        refine tk (v := ?_) 10 ?_ ?_
        rotate_left
        · intro w hSw
          (try dsimp only at hSw)
          first | (go_simp; done) | (go_simp; with_reducible rfl) | with_reducible rfl
        simp only [Act.put, List.setIfInBounds_toArray, List.set_cons_zero, List.set_cons_succ]
        refine sk 11 ?_
        simp only [Act.put, List.setIfInBounds_toArray, List.set_cons_zero, List.set_cons_succ]
        refine sk 12 ?_
        simp only [Act.put, List.setIfInBounds_toArray, List.set_cons_zero, List.set_cons_succ]
        refine sk 13 ?_
        simp only [Act.put, List.setIfInBounds_toArray, List.set_cons_zero, List.set_cons_succ]
        refine sk 14 ?_
        simp only [Act.put, List.setIfInBounds_toArray, List.set_cons_zero, List.set_cons_succ]
        refine sk 15 ?_
        simp only [Act.put, List.setIfInBounds_toArray, List.set_cons_zero, List.set_cons_succ]
        refine sk 16 ?_
        simp only [Act.put, List.setIfInBounds_toArray, List.set_cons_zero, List.set_cons_succ]
        refine sk 17 ?_
        simp only [Act.put, List.setIfInBounds_toArray, List.set_cons_zero, List.set_cons_succ]
        refine tk (v := ?_) 18 ?_ ?_
        rotate_left
        · intro w hSw
          (try dsimp only at hSw)
          first | (go_simp; done) | (go_simp; with_reducible rfl) | with_reducible rfl
        simp only [Act.put, List.setIfInBounds_toArray, List.set_cons_zero, List.set_cons_succ]
        refine tk (v := ?_) 19 ?_ ?_
        rotate_left
        · intro w hSw
          (try dsimp only at hSw)
          first | (go_simp; done) | (go_simp; with_reducible rfl) | with_reducible rfl
        simp only [Act.put, List.setIfInBounds_toArray, List.set_cons_zero, List.set_cons_succ]
        refine wpAnyH_done (by kernel_rfl) (noPanic_ok ?_) _
        refine name_worldC (p := fun W => Exit.then _ _ _ _ W) (fun W6 hW6 => ?_)
        have n6 : New W5 W6 := by rw [hW6]; exact (Mod.refl _ _).drew
        have H7 := hid (H6.out.step n6)
        clear hW6 n6 q0 q1 m1 c5 cl hHeld
        obtain ⟨p1, p2, p3, p4, p5, p6⟩ := hPP.out
        have apB := H7.out.cr.apart.1
        have m1 : W6.cell? ⟨w.heap.size + 2, 1, none⟩ = some (.slice a' N.length c') := H7.out.r2.cellv 1 rfl
        have HMEM : Hid (∀ s ∈ N, s ∈ c.all) := hid (fun s hs => by
          have hU := HF.out.1
          have h1 := HF.out.2.1
          exact HP.out.mem_iff.1 (by rw [hU]; exact List.mem_append_left _ (h1.mem_iff.1 hs)))
        have hNl2 : N.length ≤ 200 := by
          have h1 := HF.out.2.1.length_eq
          have h2 := HP.out.length_eq
          have h3 := congrArg List.length HF.out.1
          have := HO.out.few
          rw [List.length_append] at h3
          omega
        gi_wp2_with fail
        clear m1
        gi_loopw [87] (fun i wr => ∃ (k : Nat), i = .int .i64 k ∧ k ≤ N.length ∧ NumsM wr M c.all ((N.take k).foldl (fun f x => upd f x t) c.last) ∧ Mod (· = M) W6 wr) (fun i _ => N.length - (intOf i).toNat)
        case atStart => exact ⟨0, rfl, by omega, H7.out.cr.names, Mod.refl _ _⟩
        case round =>
          obtain ⟨k, rfl, hk, hnm, hmm⟩ := hrel
          have HNM := hid hnm; have HMM := hid hmm
          have r0 := hmm.blk H7.out.r0 (by omega); have r1 := hmm.blk H7.out.r1 (by omega); have rb := hmm.blk H7.out.cr.row (fun q => apB q.symm)
          have q0 := r0.cellv 0 rfl; have q1 := r1.cellv 0 rfl
          have c4 : wr.cell? ⟨B, 4, none⟩ = some (.map (some M)) := rb.cellv 4 rfl
          have cl := rb.lt
          have HRB := hid rb
          by_cases hlt : k < N.length
          · have hns := H7.out.ns.ofBlock (w' := wr) (fun x hx => by
              have h1 := H7.out.nb x hx
              by_cases hxs : x.block < W6.heap.size
              · exact hmm.block _ hxs (by omega)
              · obtain ⟨b, o, e, hb, -⟩ := H7.out.ns.get (by omega)
                rw [e] at hx
                injection hx with hx
                rw [← hx] at hxs
                exact absurd hb hxs) hmm.size
            obtain ⟨bb, oo, rfl, hbb, hcc⟩ := hns.get (by omega)
            have g0 := hcc k hlt
            obtain ⟨s, hs⟩ : ∃ s, s = N[k] := ⟨_, rfl⟩
            have hmem := HMEM.out s (by rw [hs]; exact List.getElem_mem _)
            have HTK := hid (show N.take (k + 1) = N.take k ++ [s] by rw [List.take_succ_eq_append_getElem hlt, ← hs])
            rw [← hs] at g0
            obtain ⟨wA, hup, hnA, hmA⟩ := (hnm.new (Mod.drew (Mod.refl _ _))).put_there hmem t
            have HNA := hid hnA
            have HMA : Hid (Mod (· = M) wr wA) := hid ((Mod.refl (fun k => k = M) wr).drew.trans hmA)
            have qa0 := (HMA.out.blk r0 (by omega)).cellv 0 rfl; have qa1 := (HMA.out.blk r1 (by omega)).cellv 0 rfl
            have ca4 : wA.cell? ⟨B, 4, none⟩ = some (.map (some M)) := (HMA.out.blk rb (fun q => apB q.symm)).cellv 4 rfl
            clear hns hcc hs hmem hnm hmm hnA hmA r0 r1 rb
            gi_wp2_with fail
            refine wp_region_wideP (fun w' => w'.cell? ⟨w.heap.size, 0, none⟩ = some (.pointer (some ⟨B, 0, none⟩)) ∧ w'.cell? ⟨w.heap.size + 1, 0, none⟩ = some (.int .i64 t) ∧ w'.cell? ⟨B, 4, none⟩ = some (.map (some M))) (by kernel_rfl) ⟨q0, q1, c4⟩ (fun hHeld => ?_)
            refine tk (v := ?_) 0 ?_ ?_
            rotate_left
            · intro w hSw
              (try dsimp only at hSw)
              first | (go_simp; done) | (go_simp; with_reducible rfl) | with_reducible rfl
            simp only [Act.put, List.setIfInBounds_toArray, List.set_cons_zero, List.set_cons_succ]
            refine tk (v := ?_) 1 ?_ ?_
            rotate_left
            · intro w hSw
              (try dsimp only at hSw)
              first | (go_simp; done) | (go_simp; with_reducible rfl) | with_reducible rfl
            simp only [Act.put, List.setIfInBounds_toArray, List.set_cons_zero, List.set_cons_succ]
            refine tk (v := ?_) 2 ?_ ?_
            rotate_left
            · intro w hSw
              (try dsimp only at hSw)
              first | (go_simp; done) | (go_simp; with_reducible rfl) | with_reducible rfl
            simp only [Act.put, List.setIfInBounds_toArray, List.set_cons_zero, List.set_cons_succ]
            refine tk (v := ?_) 3 ?_ ?_
            rotate_left
            · intro w hSw
              (try dsimp only at hSw)
              first | (go_simp; done) | (go_simp; with_reducible rfl) | with_reducible rfl
            simp only [Act.put, List.setIfInBounds_toArray, List.set_cons_zero, List.set_cons_succ]
            refine tk (v := ?_) 4 ?_ ?_
            rotate_left
            · intro w hSw
              (try dsimp only at hSw)
              first | (go_simp; done) | (go_simp; with_reducible rfl) | with_reducible rfl
            simp only [Act.put, List.setIfInBounds_toArray, List.set_cons_zero, List.set_cons_succ]
            refine tk (v := ?_) 5 ?_ ?_
            rotate_left
            · intro w hSw
              (try dsimp only at hSw)
              first | (go_simp; done) | (go_simp; with_reducible rfl) | with_reducible rfl
            simp only [Act.put, List.setIfInBounds_toArray, List.set_cons_zero, List.set_cons_succ]
            refine wpAnyH_ready (rs := [6]) (by kernel_rfl) (by simp) ?_
            refine AllReadyH.cons (by simp only [List.getElem?_toArray, List.getElem?_cons_succ, List.getElem?_cons_zero]; rfl) (fun K hK => ?_) AllReadyH.nil
            go_simp
            refine hK.out _ _ ⟨qa0, qa1, ca4⟩ (fun hHeld6 => ?_)
            clear hK K
            try simp only [Act.put, List.setIfInBounds_toArray, List.set_cons_zero, List.set_cons_succ]
            refine wpAnyH_done (by kernel_rfl) (noPanic_ok ?_) _
            gi_wp2
            go_roundw
            case rel => exact ⟨k + 1, by simp, by omega, by rw [HTK.out, List.foldl_append]; exact HNA.out, HMM.out.trans HMA.out⟩
            case measure => simp [intOf]; omega
          · obtain rfl : k = N.length := by omega
            rw [List.take_length] at HNM
            have c5 : wr.cell? ⟨B, 5, none⟩ = some (.int .i64 c.sent) := rb.cellv 5 rfl
            have c0 : wr.cell? ⟨B, 0, none⟩ = some (.int .i64 c.now) := rb.cellv 0 rfl
            have f5 := rb.frz 5; have f0 := rb.frz 0
            clear hnm hmm r0 r1 rb c4
            gi_wp2_with fail
            have s0 : ∀ v, (wr.drew.setCell ⟨B, 5, none⟩ v).cell? ⟨w.heap.size, 0, none⟩ = some (.pointer (some ⟨B, 0, none⟩)) := fun v => cell_off (by show w.heap.size ≠ B; omega) q0
            have s1 : ∀ v, (wr.drew.setCell ⟨B, 5, none⟩ v).cell? ⟨w.heap.size + 1, 0, none⟩ = some (.int .i64 t) := fun v => cell_off (by show w.heap.size + 1 ≠ B; omega) q1
            have u0 : ∀ v u, ((wr.drew.setCell ⟨B, 5, none⟩ v).setCell ⟨B, 0, none⟩ u).cell? ⟨w.heap.size, 0, none⟩ = some (.pointer (some ⟨B, 0, none⟩)) := fun v u => cell_off (by show w.heap.size ≠ B; omega) (s0 v)
            have u1 : ∀ v u, ((wr.drew.setCell ⟨B, 5, none⟩ v).setCell ⟨B, 0, none⟩ u).cell? ⟨w.heap.size + 1, 0, none⟩ = some (.int .i64 t) := fun v u => cell_off (by show w.heap.size + 1 ≠ B; omega) (s1 v)
            refine wp_region_wideP (fun w' => w'.cell? ⟨w.heap.size, 0, none⟩ = some (.pointer (some ⟨B, 0, none⟩)) ∧ w'.cell? ⟨w.heap.size + 1, 0, none⟩ = some (.int .i64 t)) (by kernel_rfl) ⟨q0, q1⟩ (fun hHeld => ?_)
            refine tk (v := ?_) 0 ?_ ?_
            rotate_left
            · intro w hSw
              (try dsimp only at hSw)
              first | (go_simp; done) | (go_simp; with_reducible rfl) | with_reducible rfl
            simp only [Act.put, List.setIfInBounds_toArray, List.set_cons_zero, List.set_cons_succ]
            refine tk (v := ?_) 1 ?_ ?_
            rotate_left
            · intro w hSw
              (try dsimp only at hSw)
              first | (go_simp; done) | (go_simp; with_reducible rfl) | with_reducible rfl
            simp only [Act.put, List.setIfInBounds_toArray, List.set_cons_zero, List.set_cons_succ]
            refine tk (v := ?_) 2 ?_ ?_
            rotate_left
            · intro w hSw
              (try dsimp only at hSw)
              first | (go_simp; done) | (go_simp; with_reducible rfl) | with_reducible rfl
            simp only [Act.put, List.setIfInBounds_toArray, List.set_cons_zero, List.set_cons_succ]
            refine tk (v := ?_) 3 ?_ ?_
            rotate_left
            · intro w hSw
              (try dsimp only at hSw)
              first | (go_simp; done) | (go_simp; with_reducible rfl) | with_reducible rfl
            simp only [Act.put, List.setIfInBounds_toArray, List.set_cons_zero, List.set_cons_succ]
            refine tk (v := ?_) 4 ?_ ?_
            rotate_left
            · intro w hSw
              (try dsimp only at hSw)
              first | (go_simp; done) | (go_simp; with_reducible rfl) | with_reducible rfl
            simp only [Act.put, List.setIfInBounds_toArray, List.set_cons_zero, List.set_cons_succ]
            refine tk (v := ?_) 5 ?_ ?_
            rotate_left
            · intro w hSw
              (try dsimp only at hSw)
              first | (go_simp; done) | (go_simp; with_reducible rfl) | with_reducible rfl
            simp only [Act.put, List.setIfInBounds_toArray, List.set_cons_zero, List.set_cons_succ]
            refine wpAnyH_ready (rs := [6]) (by kernel_rfl) (by simp) ?_
            refine AllReadyH.cons (by simp only [List.getElem?_toArray, List.getElem?_cons_succ, List.getElem?_cons_zero]; rfl) (fun K hK => ?_) AllReadyH.nil
            go_simp
            refine hK.out _ _ ⟨s0 _, s1 _⟩ (fun hHeld6 => ?_)
            clear hK K
            try simp only [Act.put, List.setIfInBounds_toArray, List.set_cons_zero, List.set_cons_succ]
            refine tk (v := ?_) 7 ?_ ?_
            rotate_left
            · intro w hSw
              (try dsimp only at hSw)
              first | (go_simp; done) | (go_simp; with_reducible rfl) | with_reducible rfl
            simp only [Act.put, List.setIfInBounds_toArray, List.set_cons_zero, List.set_cons_succ]
            refine tk (v := ?_) 8 ?_ ?_
            rotate_left
            · intro w hSw
              (try dsimp only at hSw)
              first | (go_simp; done) | (go_simp; with_reducible rfl) | with_reducible rfl
            simp only [Act.put, List.setIfInBounds_toArray, List.set_cons_zero, List.set_cons_succ]
            refine tk (v := ?_) 9 ?_ ?_
            rotate_left
            · intro w hSw
              (try dsimp only at hSw)
              first | (go_simp; done) | (go_simp; with_reducible rfl) | with_reducible rfl
            simp only [Act.put, List.setIfInBounds_toArray, List.set_cons_zero, List.set_cons_succ]
            refine wpAnyH_ready (rs := [10]) (by kernel_rfl) (by simp) ?_
            refine AllReadyH.cons (by simp only [List.getElem?_toArray, List.getElem?_cons_succ, List.getElem?_cons_zero]; rfl) (fun K hK => ?_) AllReadyH.nil
            go_simp
            refine hK.out _ _ ⟨u0 _ _, u1 _ _⟩ (fun hHeld10 => ?_)
            clear hK K
            try simp only [Act.put, List.setIfInBounds_toArray, List.set_cons_zero, List.set_cons_succ]
            refine wpAnyH_done (by kernel_rfl) (noPanic_ok ?_) _
            refine name_worldC (p := fun W => Exit.then _ _ _ _ W) (fun W8 hW8 => ?_)
            have hm8 : Mod (fun k => k = B) wr W8 := by
              rw [hW8]
              refine Mod.drew ?_
              refine Mod.set (S := fun k => k = B) ?_ ⟨B, 0, none⟩ _ (.inl rfl)
              exact Mod.set (S := fun k => k = B) (Mod.refl _ _) ⟨B, 5, none⟩ _ (.inl rfl)
            have hb8 : Blk W8 B (crRow M H (c.tellC t N)) 64 := by
              rw [hW8]
              exact (((HRB.out.set 5 _).set 0 _).row (by simp [crRow, CrV.tellC])).drew
            have HM8 : Hid (Mod (fun k => k = B ∨ k = M) W6 W8) := hid ((HMM.out.mono (S' := fun k => k = B ∨ k = M) (fun i _ q => .inr q)).trans' hm8 (fun i _ q => .inl q))
            have HB8 := hid hb8
            have HN8 : Hid (NumsM W8 M c.all (N.foldl (fun f x => upd f x t) c.last)) := hid (HNM.out.mod hm8 apB)
            have r2 := HM8.out.blk H7.out.r2 (by omega)
            have m0 := r2.cellv 0 rfl; have m1 := r2.cellv 1 rfl; have m2 := r2.cellv 2 rfl
            have hns := H7.out.ns.ofBlock (w' := W8) (fun x hx => by
              have h1 := H7.out.nb x hx
              by_cases hxs : x.block < W6.heap.size
              · exact HM8.out.block _ hxs (by omega)
              · rcases H7.out.ns.at' with q | ⟨b, o, e, hb, -⟩
                · have h5 := HF.out.2.1
                  rw [q] at h5
                  exact absurd h5.symm.eq_nil HT0.out
                · rw [e] at hx
                  injection hx with hx
                  rw [← hx] at hxs
                  exact absurd hb hxs) HM8.out.size
            have hvm : validM ⟨c.port, N, c.cookie⟩ = true := by
              rcases HF.out.2.2.1 with q | q
              · exact absurd q HT0.out
              · exact q
            have HWR := hid (written_any ⟨c.port, N, c.cookie⟩ a' c' W8 hvm hns (HTB.out _ ((New.mod H7.out.mod).trans HM8.out)) : Calls Tryz.prog 42 #[.agg #[.int .i64 c.port, .slice a' N.length c', .string c.cookie]] W8 fun e w' => e = .returned (.string (mkB (writtenL ⟨c.port, N, c.cookie⟩))) ∧ New W8 w')
            obtain ⟨OUT, hOUT⟩ : ∃ OUT, OUT = mkB (writtenL ⟨c.port, N, c.cookie⟩) := ⟨_, rfl⟩
            have HOUT := hid hOUT
            rw [← hOUT] at HWR
            clear hW8 hm8 hb8 r2 hns hvm hOUT hHeld hHeld6 hHeld10 s0 s1 u0 u1 q0 q1 c0 c5 f0 f5 cl
            gi_wp2_with (refine ⟨trivial, ?_⟩; gi_at_call 42; refine (callsIn_wide.2 HWR.out).mono ?_; rintro e w9 ⟨rfl, n9⟩)
            have HMF : Hid (Mod (fun k => k = B ∨ k = M ∨ k = D) W6 (w9.putObj D (.deferred none))) := hid (((HM8.out.mono (S' := fun k => k = B ∨ k = M ∨ k = D) (fun i _ q => by omega)).trans' n9 (fun i _ q => q.elim)).putObj D _ (.inl (.inr (.inr rfl))))
            have D9 : w9.heap[D]? = some (.deferred (some [])) := (n9.block _ (Nat.lt_of_lt_of_le (Array.getElem?_eq_some_iff.1 H7.out.hD).1 HM8.out.size) (fun q => q)).trans ((HM8.out.block D (Array.getElem?_eq_some_iff.1 H7.out.hD).1 (by omega)).trans H7.out.hD)
            refine ⟨by simp, .inl ⟨_, _, rfl, run_takeDeferred D9, ?_⟩⟩
            refine ⟨.tuple #[.string OUT, .int .i64 0], by simp [results, Tryz.results10, go_sem], ?_⟩
            have hpd : Mod (fun k => k = D) w9 (w9.putObj D (.deferred none)) := Mod.putObj (Mod.refl _ _) _ _ (.inl rfl)
            have ap2 := H7.out.cr.apart.2.1; have ap3 := H7.out.cr.apart.2.2
            have hcr : CrAt (w9.putObj D (.deferred none)) B M H (c.tellC t N) := ⟨hpd.blk (New.blk n9 HB8.out) (by omega), (HN8.out.new n9).mod hpd (by omega), H7.out.cr.hears.mod HMF.out (by omega), H7.out.cr.apart⟩
            obtain ⟨hU, h1, h2, h3, h4⟩ := HF.out
            exact ⟨U, T, rest, N, hU, HP.out, HPW.out, h1, h2, h3, h4, .inr ⟨HT0.out, HC2.out, by rw [HOUT.out], hcr, (New.mod (S := fun k => k = B ∨ k = M) H7.out.mod).trans' HMF.out (fun i hi q => by omega)⟩⟩
end Go.Proofs.YtnflhjagmngimaaGreatDoor
