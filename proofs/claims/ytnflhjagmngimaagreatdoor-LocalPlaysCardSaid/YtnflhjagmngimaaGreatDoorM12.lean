/-
  Several texts in one, in their build order. The walk of a crier's When (package local). Conditions: the crier lies as told.
-/
import Derived.Test.YtnflhjagmngimaaGreatDoorM11
namespace Go.Proofs.YtnflhjagmngimaaGreatDoor
set_option linter.unusedSimpArgs false
set_option linter.unusedVariables false
open Go.RowKit Go.Shelf
attribute [local go_sem] Oper.semAt_some

theorem name_worldC {p : World → Prop} {w : World} (h : ∀ W, W = w → p W) : p w := h w rfl
/-- What lies about the loop of When. -/
structure WhE (w : World) (B M H : Nat) (c : CrV) (t : Int) (vb : Nat) (a : Option Addr) (cap : Nat) (U : List ByteArray) (D : Nat) (lo : Obj) (W : World) : Prop where
  r0 : Blk W w.heap.size #[.pointer (some ⟨B, 0, none⟩)] 24
  r1 : Blk W (w.heap.size + 1) #[.int .i64 t] 3
  r2 : Blk W (w.heap.size + 1 + 1) #[.int .i64 0] 3
  r3 : Blk W (w.heap.size + 1 + 1 + 1) #[.int .i64 0] 25
  cr : CrAt W B M H c
  vals : Blk W vb #[.slice a U.length cap] 22
  strs : StrsAt W a cap U
  hD : W.heap[D]? = some (.deferred (some []))
  hL : W.heap[D + 1]? = some lo
  mod : New w W
theorem WhE.step {w : World} {B M H : Nat} {c : CrV} {t : Int} {vb : Nat} {a : Option Addr} {cap : Nat} {U : List ByteArray} {D : Nat} {lo : Obj} {W W' : World} (h : WhE w B M H c t vb a cap U D lo W) (hm : New W W') : WhE w B M H c t vb a cap U D lo W' :=
  ⟨New.blk hm h.r0, New.blk hm h.r1, New.blk hm h.r2, New.blk hm h.r3, h.cr.new hm, New.blk hm h.vals, h.strs.new hm, (hm.block _ (Array.getElem?_eq_some_iff.1 h.hD).1 (fun q => q)).trans h.hD, (hm.block _ (Array.getElem?_eq_some_iff.1 h.hL).1 (fun q => q)).trans h.hL, Mod.trans h.mod hm⟩
/-- Where all lies. -/
structure WhP (w : World) (B M H vb D : Nat) (a : Option Addr) : Prop where
  b : B < w.heap.size
  m : M < w.heap.size
  h : H < w.heap.size
  v : w.heap.size + 4 ≤ vb
  d : vb < D
  x : ∀ x, a = some x → x.block < D
theorem StrsAt.ofBlock {w w' : World} {a : Option Addr} {c : Nat} {l : List ByteArray} (h : StrsAt w a c l) (hs : ∀ x, a = some x → w'.heap[x.block]? = w.heap[x.block]?) (hz : w.heap.size ≤ w'.heap.size) : StrsAt w' a c l := by
  obtain ⟨h1, h2, h3, h4⟩ := h
  refine ⟨h1, h2, h3, ?_⟩
  rcases h4 with h4 | ⟨b, o, e, hb, hc⟩
  · exact .inl h4
  · refine .inr ⟨b, o, e, Nat.lt_of_lt_of_le hb hz, fun i s hi => ?_⟩
    have e2 := hs _ e
    have := hc i s hi
    unfold World.cell? at this ⊢
    rw [e2]
    exact this
theorem WhE.put {w : World} {B M H : Nat} {c : CrV} {t : Int} {vb : Nat} {a : Option Addr} {cap : Nat} {U : List ByteArray} {D : Nat} {lo lo' : Obj} {W : World} (h : WhE w B M H c t vb a cap U D lo W) (p : WhP w B M H vb D a) : WhE w B M H c t vb a cap U D lo' (W.putObj (D + 1) lo') := by
  obtain ⟨p1, p2, p3, p4, p5, p6⟩ := p
  have hM : Mod (fun k => k = D + 1) W (W.putObj (D + 1) lo') := Mod.putObj (Mod.refl _ _) _ _ (.inl rfl)
  refine ⟨Blk.putObj (by omega) h.r0, Blk.putObj (by omega) h.r1, Blk.putObj (by omega) h.r2, Blk.putObj (by omega) h.r3, h.cr.mod hM (by omega) (by omega) (by omega), Blk.putObj (by omega) h.vals, h.strs.ofBlock (fun x hx => ?_) hM.size, obz_put (by omega) h.hD, World.putObj_heap_same (Array.getElem?_eq_some_iff.1 h.hL).1, Mod.putObj h.mod _ _ (.inr (by omega))⟩
  have := p6 x hx
  exact World.putObj_heap_other (by omega)
def WhInv (w : World) (B M H : Nat) (c : CrV) (t : Int) (vb : Nat) (a : Option Addr) (cap : Nat) (U : List ByteArray) (D : Nat) (rec : LoopState → Option Code → Loop) (T : List ByteArray) (W : World) : Prop :=
  T = [] ∧ WhE w B M H c t vb a cap U D (.loop (rec .ready none)) W
def WhStop (w : World) (B M H : Nat) (c : CrV) (t : Int) (vb : Nat) (a : Option Addr) (cap : Nat) (U : List ByteArray) (D : Nat) (rec : LoopState → Option Code → Loop) (W : World) : Prop :=
  ∃ f rest, U = f :: rest ∧ ((1000000000 < whenT c.every c.sent t (c.last f) ∧ WhE w B M H c t vb a cap U D (.loop (rec .done (some (.exit 0)))) W) ∨
    (whenT c.every c.sent t (c.last f) ≤ 1000000000 ∧ Blk W (w.heap.size + 1 + 1) #[.int .i64 (whenT c.every c.sent t (c.last f))] 3 ∧ Blk W (w.heap.size + 1 + 1 + 1) #[.int .i64 0] 25 ∧ CrAt W B M H { c with now := t } ∧
      W.heap[D]? = some (.deferred (some [])) ∧ W.heap[D + 1]? = some (.loop (rec .done (some .ret))) ∧ Mod (· = B) w W))
theorem at_factsC {c : CrV} {t : Int} (h : c.atE t = 0) : c.now ≤ t ∧ t ≤ 1000000000 := by
  unfold CrV.atE at h
  split at h
  · simp at h
  · omega
set_option maxRecDepth 100000 in
set_option maxHeartbeats 4000000 in
theorem cWhen_late (B M H : Nat) (c : CrV) (t : Int) (w : World) (h : CrAt w B M H c) (hno : c.atE t ≠ 0) :
    Calls Tryz.prog 9 #[.pointer (some ⟨B, 0, none⟩), .int .i64 t] w fun e w' => e = .returned (.tuple #[.int .i64 0, .int .i64 (c.atE t)]) ∧ New w w' := by
  have HAT := hid (fun W (n : New w W) => crAt_any B M H c t W (h.new n))
  obtain ⟨E, hE⟩ : ∃ E, E = c.atE t := ⟨_, rfl⟩
  rw [← hE] at HAT hno ⊢
  have e1 : (E == 0) = false := by rw [beq_eq_false_iff_ne]; exact hno
  have e2 : (E != 0) = true := by rw [bne, e1]; rfl
  clear h hno hE
  refine (callsIn_wide (n := 9)).1 ?_
  refine callsIn_of_wp_marks Tryz.func9 rfl trivial ?_ rfl
  simp only [Tryz.ntmps9, List.size_toArray, List.length_cons, List.length_nil, Nat.reduceAdd, Nat.reduceSub, Array.replicate_succ, Array.replicate_zero, List.push_toArray, List.append_toArray, List.nil_append, List.cons_append]
  gi_wp2_with fail
  refine name_worldC (p := fun W => Code.wpIn _ _ _ _ _ _ W) (fun W0 hW0 => ?_)
  have hs0 : W0.heap.size = w.heap.size + 4 := by rw [hW0]; simp
  have k0 : Blk W0 w.heap.size #[.pointer (some ⟨B, 0, none⟩)] 24 := by rw [hW0]; exact (((Blk.new _ _ _).alloc _).alloc _).alloc _
  have k1 : Blk W0 (w.heap.size + 1) #[.int .i64 t] 3 := by rw [hW0]; exact ((Blk.newAt (by simp)).alloc _).alloc _
  have k2 : Blk W0 (w.heap.size + 1 + 1) #[.int .i64 0] 3 := by rw [hW0]; exact (Blk.newAt (by simp)).alloc _
  have k3 : Blk W0 (w.heap.size + 1 + 1 + 1) #[.int .i64 0] 25 := by rw [hW0]; exact Blk.newAt (by simp)
  have kn : New w W0 := by rw [hW0]; exact ((((Mod.refl _ _).alloc _).alloc _).alloc _).alloc _
  clear hW0
  have K0 := hid k0; have K1 := hid k1; have K2 := hid k2; have K3 := hid k3; have KN := hid kn
  have q0 := k0.cellv 0 rfl; have q1 := k1.cellv 0 rfl
  have l0 := k0.lt; have l1 := k1.lt
  clear k0 k1 k2 k3 kn
  refine wp_region_wideP (fun w' => w'.cell? ⟨w.heap.size, 0, none⟩ = some (.pointer (some ⟨B, 0, none⟩)) ∧ w'.cell? ⟨w.heap.size + 1, 0, none⟩ = some (.int .i64 t)) (by kernel_rfl) ⟨q0, q1⟩ (fun hHeld => ?_)
  refine tk (v := ?_) 0 ?_ ?_
  rotate_left
  · intro w hSw
    (try dsimp only at hSw)
    first | (go_simp; done) | (go_simp; with_reducible rfl) | with_reducible rfl
  simp only [Act.put, List.setIfInBounds_toArray, List.set_cons_zero, List.set_cons_succ]
  refine tk (v := ?_) 1 ?_ ?_
  rotate_left
  · intro w hSw
    (try dsimp only at hSw)
    first | (go_simp; done) | (go_simp; with_reducible rfl) | with_reducible rfl
  simp only [Act.put, List.setIfInBounds_toArray, List.set_cons_zero, List.set_cons_succ]
  refine tk (v := ?_) 2 ?_ ?_
  rotate_left
  · intro w hSw
    (try dsimp only at hSw)
    first | (go_simp; done) | (go_simp; with_reducible rfl) | with_reducible rfl
  simp only [Act.put, List.setIfInBounds_toArray, List.set_cons_zero, List.set_cons_succ]
  refine tk (v := ?_) 3 ?_ ?_
  rotate_left
  · intro w hSw
    (try dsimp only at hSw)
    first | (go_simp; done) | (go_simp; with_reducible rfl) | with_reducible rfl
  simp only [Act.put, List.setIfInBounds_toArray, List.set_cons_zero, List.set_cons_succ]
  refine wpAnyH_ready (rs := [4]) (by kernel_rfl) (by simp) ?_
  refine AllReadyH.cons rfl (fun K hK => ?_) AllReadyH.nil
  go_simp
  (go_at_call 36; refine (HAT.out _ (KN.out.drew)).mono ?_; rintro e w4 ⟨rfl, rfl⟩)
  try dsimp only
  refine hK.out _ _ ⟨q0, q1⟩ (fun hHeld4 => ?_)
  clear hK K
  try simp only [Act.put, List.setIfInBounds_toArray, List.set_cons_zero, List.set_cons_succ]
  refine tk (v := ?_) 5 ?_ ?_
  rotate_left
  · intro w hSw
    (try dsimp only at hSw)
    first | (go_simp; done) | (go_simp; with_reducible rfl) | with_reducible rfl
  simp only [Act.put, List.setIfInBounds_toArray, List.set_cons_zero, List.set_cons_succ]
  refine wpAnyH_done (by kernel_rfl) (noPanic_ok ?_) _
  have r2 := K2.out.cellv 0 rfl; have r3 := K3.out.cellv 0 rfl
  have l2 := K2.out.lt; have l3 := K3.out.lt
  have f2 := K2.out.frz 0; have f3 := K3.out.frz 0
  gi_wp2
  refine name_worldC (p := fun W => bodyPostM _ _ _ _ _ _ _ W) (fun W6 hW6 => ?_)
  have G2 : Blk W6 (w.heap.size + 1 + 1) #[.int .i64 0] 3 := by
    rw [hW6]
    exact (Blk.other (by simp) ((K2.out.set 0 _).row (by simp))).drew
  have G3 : Blk W6 (w.heap.size + 1 + 1 + 1) #[.int .i64 E] 25 := by
    rw [hW6]
    exact (((Blk.other (by simp) K3.out).set 0 _).row (by simp)).drew
  have N6 : New w W6 := by
    rw [hW6]
    exact (Mod.set (Mod.set KN.out _ _ (.inr (by simp; omega))) _ _ (.inr (by simp; omega))).drew
  clear hW6
  have c2 := G2.cellv 0 rfl; have c3 := G3.cellv 0 rfl
  refine ⟨.tuple #[.int .i64 0, .int .i64 E], ?_, rfl, N6⟩
  simp [results, Tryz.results9, go_sem, c2, c3]
set_option maxRecDepth 100000 in
set_option maxHeartbeats 8000000 in
theorem cWhen_any (B M H : Nat) (c : CrV) (t : Int) (w : World) (h : CrAt w B M H c) (ho : CrOk c) (hat : c.atE t = 0) :
    Calls Tryz.prog 9 #[.pointer (some ⟨B, 0, none⟩), .int .i64 t] w fun e w' =>
      (c.all = [] ∧ e = .returned (.tuple #[.int .i64 0, .int .i64 8]) ∧ New w w') ∨
      (∃ f ∈ c.all, (∀ m ∈ c.all, c.last f ≤ c.last m) ∧ ((1000000000 < whenT c.every c.sent t (c.last f) ∧ e = .returned (.tuple #[.int .i64 0, .int .i64 8]) ∧ New w w') ∨
        (whenT c.every c.sent t (c.last f) ≤ 1000000000 ∧ e = .returned (.tuple #[.int .i64 (whenT c.every c.sent t (c.last f)), .int .i64 0]) ∧ CrAt w' B M H { c with now := t } ∧ Mod (· = B) w w'))) := by
  have HAT := hid (fun W (n : New w W) => crAt_any B M H c t W (h.new n))
  obtain ⟨t0, t1⟩ := at_factsC hat
  have HW := hid (fun W (n : New w W) => waiting_any B M H c W (h.new n) ho)
  have HC := hid h; have HO := hid ho
  obtain ⟨hBl, hMl, hHl⟩ := h.lt
  obtain ⟨n1, n2⟩ := ho.now; obtain ⟨v1, v2⟩ := ho.every; obtain ⟨s1, s2⟩ := ho.sent
  rw [hat] at HAT
  clear h ho hat
  refine (callsIn_wide (n := 9)).1 ?_
  refine callsIn_of_wp_marks Tryz.func9 rfl trivial ?_ rfl
  simp only [Tryz.ntmps9, List.size_toArray, List.length_cons, List.length_nil, Nat.reduceAdd, Nat.reduceSub, Array.replicate_succ, Array.replicate_zero, List.push_toArray, List.append_toArray, List.nil_append, List.cons_append]
  gi_wp2_with fail
  refine name_worldC (p := fun W => Code.wpIn _ _ _ _ _ _ W) (fun W0 hW0 => ?_)
  have hs0 : W0.heap.size = w.heap.size + 4 := by rw [hW0]; simp
  have k0 : Blk W0 w.heap.size #[.pointer (some ⟨B, 0, none⟩)] 24 := by rw [hW0]; exact (((Blk.new _ _ _).alloc _).alloc _).alloc _
  have k1 : Blk W0 (w.heap.size + 1) #[.int .i64 t] 3 := by rw [hW0]; exact ((Blk.newAt (by simp)).alloc _).alloc _
  have k2 : Blk W0 (w.heap.size + 1 + 1) #[.int .i64 0] 3 := by rw [hW0]; exact (Blk.newAt (by simp)).alloc _
  have k3 : Blk W0 (w.heap.size + 1 + 1 + 1) #[.int .i64 0] 25 := by rw [hW0]; exact Blk.newAt (by simp)
  have kn : New w W0 := by rw [hW0]; exact ((((Mod.refl _ _).alloc _).alloc _).alloc _).alloc _
  clear hW0
  have K0 := hid k0; have K1 := hid k1; have K2 := hid k2; have K3 := hid k3; have KN := hid kn
  have q0 := k0.cellv 0 rfl; have q1 := k1.cellv 0 rfl
  have l0 := k0.lt; have l1 := k1.lt
  clear k0 k1 k2 k3 kn
  refine wp_region_wideP (fun w' => w'.cell? ⟨w.heap.size, 0, none⟩ = some (.pointer (some ⟨B, 0, none⟩)) ∧ w'.cell? ⟨w.heap.size + 1, 0, none⟩ = some (.int .i64 t)) (by kernel_rfl) ⟨q0, q1⟩ (fun hHeld => ?_)
  refine tk (v := ?_) 0 ?_ ?_
  rotate_left
  · intro w hSw
    (try dsimp only at hSw)
    first | (go_simp; done) | (go_simp; with_reducible rfl) | with_reducible rfl
  simp only [Act.put, List.setIfInBounds_toArray, List.set_cons_zero, List.set_cons_succ]
  refine tk (v := ?_) 1 ?_ ?_
  rotate_left
  · intro w hSw
    (try dsimp only at hSw)
    first | (go_simp; done) | (go_simp; with_reducible rfl) | with_reducible rfl
  simp only [Act.put, List.setIfInBounds_toArray, List.set_cons_zero, List.set_cons_succ]
  refine tk (v := ?_) 2 ?_ ?_
  rotate_left
  · intro w hSw
    (try dsimp only at hSw)
    first | (go_simp; done) | (go_simp; with_reducible rfl) | with_reducible rfl
  simp only [Act.put, List.setIfInBounds_toArray, List.set_cons_zero, List.set_cons_succ]
  refine tk (v := ?_) 3 ?_ ?_
  rotate_left
  · intro w hSw
    (try dsimp only at hSw)
    first | (go_simp; done) | (go_simp; with_reducible rfl) | with_reducible rfl
  simp only [Act.put, List.setIfInBounds_toArray, List.set_cons_zero, List.set_cons_succ]
  refine wpAnyH_ready (rs := [4]) (by kernel_rfl) (by simp) ?_
  refine AllReadyH.cons rfl (fun K hK => ?_) AllReadyH.nil
  go_simp
  (go_at_call 36; refine (HAT.out _ (KN.out.drew)).mono ?_; rintro e w4 ⟨rfl, rfl⟩)
  try dsimp only
  refine hK.out _ _ ⟨q0, q1⟩ (fun hHeld4 => ?_)
  clear hK K
  try simp only [Act.put, List.setIfInBounds_toArray, List.set_cons_zero, List.set_cons_succ]
  refine tk (v := ?_) 5 ?_ ?_
  rotate_left
  · intro w hSw
    (try dsimp only at hSw)
    first | (go_simp; done) | (go_simp; with_reducible rfl) | with_reducible rfl
  simp only [Act.put, List.setIfInBounds_toArray, List.set_cons_zero, List.set_cons_succ]
  refine wpAnyH_done (by kernel_rfl) (noPanic_ok ?_) _
  gi_wp2_with (refine ⟨trivial, ?_⟩; gi_at_call 37; refine (callsIn_wide.2 (HW.out _ KN.out.drew)).mono ?_; rintro e w1 ⟨vb, U, a, cap, rfl, hvb, hst, hp, hpw, n1', hz1, hz2⟩)
  have hz0 : W0.drew.heap.size = w.heap.size + 4 := hs0
  rw [hz0] at hz1 hz2
  have N1 := hid (KN.out.drew.trans n1')
  have na : New W0 w1 := (Mod.refl _ W0).drew.trans n1'
  have k0 := New.blk na K0.out; have k1 := New.blk na K1.out; have k2 := New.blk na K2.out; have k3 := New.blk na K3.out
  have kc := HC.out.new N1.out
  have HP := hid hp; have HPW := hid (hpw.imp (fun q => befN_last q) : U.Pairwise (fun x y => c.last x ≤ c.last y))
  have hvl := hvb.lt
  refine wpIn_range rfl (by omega) (gf := 94) (lb := #[.pointer (some ⟨vb, 0, none⟩)]) rfl trivial (enters_of Tryz.func94 (by kernel_rfl) rfl) ?_
  intro fn _ rec hrec
  have hst2 : New w1 ((w1.alloc (.deferred (some []))).alloc (.loop (rec .ready none))) := ((Mod.refl _ _).alloc _).alloc _
  have hl0 : ((w1.alloc (.deferred (some []))).alloc (.loop (rec .ready none))).heap[w1.heap.size + 1]? = some (.loop (rec .ready none)) := by
    have := World.alloc_heap_new (w := w1.alloc (.deferred (some []))) (o := .loop (rec .ready none))
    rwa [World.size_alloc] at this
  have hd0 : ((w1.alloc (.deferred (some []))).alloc (.loop (rec .ready none))).heap[w1.heap.size]? = some (.deferred (some [])) := (Below.heap_alloc _ _ _ (by simp)).trans (World.alloc_heap_new w1 _)
  have hPP : Hid (WhP w B M H vb w1.heap.size a) := hid ⟨hBl, hMl, hHl, hz1, hvl, fun x hx => (hz2 x hx).2⟩
  obtain ⟨D, hD⟩ : ∃ D, D = w1.heap.size := ⟨_, rfl⟩
  rw [← hD] at hrec hl0 hd0 hPP ⊢
  have henv : WhE w B M H c t vb a cap U D (.loop (rec .ready none)) ((w1.alloc (.deferred (some []))).alloc (.loop (rec .ready none))) :=
    ⟨New.blk hst2 k0, New.blk hst2 k1, New.blk hst2 k2, New.blk hst2 k3, kc.new hst2, New.blk hst2 hvb, hst.new hst2, hd0, hl0, Mod.trans N1.out hst2⟩
  generalize (w1.alloc (.deferred (some []))).alloc (.loop (rec .ready none)) = W1 at *
  clear hs0 k0 k1 k2 k3 kc hst2 hl0 hd0 na n1' hvb hst hp hpw hz1 hz2 hz0 hvl N1 hD K0 K1 K2 K3 KN q0 q1 l0 l1
  refine (values_iter a cap U vb (D + 1) 8 (by omega) (WhInv w B M H c t vb a cap U D rec) (WhStop w B M H c t vb a cap U D rec) ?hI ?hY W1 ⟨rfl, henv⟩).mono ?fin
  case hI =>
    rintro T W ⟨rfl, e⟩
    exact ⟨e.vals, e.strs⟩
  case hY =>
    rintro T s rest W ⟨rfl, hE⟩ hU
    have HU := hid hU.symm
    have HDU := hid (fun W (q : CrAt W B M H c) => due_any B M H c s W q HO.out)
    have hls := HO.out.last s
    obtain ⟨X, hX⟩ : ∃ X, X = dueT c.every (c.last s) := ⟨_, rfl⟩
    have hX2 : 0 ≤ X ∧ X ≤ 1001000000 := by rw [hX]; unfold dueT; split <;> omega
    obtain ⟨WT, hWT⟩ : ∃ WT, WT = whenT c.every c.sent t (c.last s) := ⟨_, rfl⟩
    have HWE := hid hWT
    have HWT := hid (show WT = if 0 ≤ c.sent then max (max t X) (c.sent + 1000) else max t X by rw [hWT, hX]; rfl)
    clear hWT
    rw [← hX] at HDU
    refine yieldAt_round hrec hE.hL rfl trivial ?_
    have HE := hid hE
    clear hE hrec henv hU hX hls
    gi_wp2
    refine ⟨HE.out.hL, ?_⟩
    refine name_worldC (p := fun W => Code.wpIn _ _ _ _ _ _ W) (fun W3 hW3 => ?_)
    have hE3 : WhE w B M H c t vb a cap U D (.loop (rec .busy none)) W3 := by rw [hW3]; exact HE.out.put hPP.out
    clear hW3
    have HE3 := hid hE3
    have q0 := hE3.r0.cellv 0 rfl; have q1 := hE3.r1.cellv 0 rfl
    clear hE3
    gi_wp2_with fail
    refine wp_region_round (fun w' => w'.cell? ⟨w.heap.size, 0, none⟩ = some (.pointer (some ⟨B, 0, none⟩)) ∧ w'.cell? ⟨w.heap.size + 1, 0, none⟩ = some (.int .i64 t)) (by kernel_rfl) (noDefer_spec (by kernel_rfl)) (by rintro ⟨a, w, q⟩; exact q) ⟨q0, q1⟩ (fun hHeld => ?_)
    refine tk (v := ?_) 0 ?_ ?_
    rotate_left
    · intro w hSw
      (try dsimp only at hSw)
      first | (go_simp; done) | (go_simp; with_reducible rfl) | with_reducible rfl
    simp only [Act.put, List.setIfInBounds_toArray, List.set_cons_zero, List.set_cons_succ]
    refine tk (v := ?_) 1 ?_ ?_
    rotate_left
    · intro w hSw
      (try dsimp only at hSw)
      first | (go_simp; done) | (go_simp; with_reducible rfl) | with_reducible rfl
    simp only [Act.put, List.setIfInBounds_toArray, List.set_cons_zero, List.set_cons_succ]
    refine tk (v := ?_) 2 ?_ ?_
    rotate_left
    · intro w hSw
      (try dsimp only at hSw)
      first | (go_simp; done) | (go_simp; with_reducible rfl) | with_reducible rfl
    simp only [Act.put, List.setIfInBounds_toArray, List.set_cons_zero, List.set_cons_succ]
    refine wpAnyH_ready (rs := [3]) (by kernel_rfl) (by simp) ?_
    refine AllReadyH.cons rfl (fun K hK => ?_) AllReadyH.nil
    go_simp
    (go_at_call 38; refine (HDU.out _ (HE3.out.cr.new ((Mod.refl _ _).drew))).mono ?_; rintro e w4 ⟨rfl, n4⟩; have N4 := hid ((Mod.refl (fun _ => False) W3).drew.trans n4); clear n4)
    try dsimp only
    refine hK.out _ _ ⟨New.cellv N4.out q0, New.cellv N4.out q1⟩ (fun hHeld3 => ?_)
    clear hK K
    try simp only [Act.put, List.setIfInBounds_toArray, List.set_cons_zero, List.set_cons_succ]
    refine tk (v := ?_) 4 ?_ ?_
    rotate_left
    · intro w hSw
      (try dsimp only at hSw)
      first | (go_simp; done) | (go_simp; with_reducible rfl) | with_reducible rfl
    simp only [Act.put, List.setIfInBounds_toArray, List.set_cons_zero, List.set_cons_succ]
    refine tk (v := ?_) 5 ?_ ?_
    rotate_left
    · intro w hSw
      (try dsimp only at hSw)
      first | (go_simp; done) | (go_simp; with_reducible rfl) | with_reducible rfl
    simp only [Act.put, List.setIfInBounds_toArray, List.set_cons_zero, List.set_cons_succ]
    refine wpAnyH_done (by kernel_rfl) ?_ _
    have HE4 := hid (HE3.out.step N4.out)
    have q0 := HE4.out.r0.cellv 0 rfl; have q1 := HE4.out.r1.cellv 0 rfl; have q2 := HE4.out.r2.cellv 0 rfl; have q3 := HE4.out.r3.cellv 0 rfl
    have l2 := HE4.out.r2.lt; have l3 := HE4.out.r3.lt; have f2 := HE4.out.r2.frz 0; have f3 := HE4.out.r3.frz 0
    have c0 : w4.cell? ⟨B, 0, none⟩ = some (.int .i64 c.now) := HE4.out.cr.row.cellv 0 rfl
    have c5 : w4.cell? ⟨B, 5, none⟩ = some (.int .i64 c.sent) := HE4.out.cr.row.cellv 5 rfl
    have cl := HE4.out.cr.row.lt; have cf := HE4.out.cr.row.frz 0
    obtain ⟨A, hA⟩ : ∃ A, A = max t X := ⟨_, rfl⟩
    have hA2 : 0 ≤ A ∧ A ≤ 1001000000 := by omega
    obtain ⟨sn, hsn⟩ : ∃ sn, sn = c.sent := ⟨_, rfl⟩
    obtain ⟨nw, hnw⟩ : ∃ nw, nw = c.now := ⟨_, rfl⟩
    rw [← hA] at HWT ⊢
    rw [← hsn] at HWT c5 s1 s2
    rw [← hnw] at c0 n1 n2 t0 s2
    have hw : IntKind.i64.wrap (sn + 1000) = sn + 1000 := by rw [IntKind.wrap_i64]; omega
    clear hA hsn hnw hX2
    by_cases g0 : 0 ≤ sn
    · obtain ⟨V, hV⟩ : ∃ V, V = max A (sn + 1000) := ⟨_, rfl⟩
      have hmx : max A (sn + 1000) = V := hV.symm
      have HWV := hid (show WT = V by rw [HWT.out, if_pos g0, hV])
      clear hV
      by_cases g1 : 1000000000 < V
      · have HG := hid g1
        gi_wp2
        exact ⟨HE4.out.hL, .inr ⟨rfl, s, rest, HU.out, .inl ⟨by rw [← HWE.out, HWV.out]; exact HG.out, HE4.out.put hPP.out⟩⟩⟩
      · have HG := hid g1
        gi_wp2
        refine name_worldC (p := fun W => RoundEnd _ _ _ _ _ W) (fun W5 hW5 => ?_)
        obtain ⟨p1, p2, p3, p4, p5, p6⟩ := hPP.out
        have hm5 : Mod (fun k => k = B ∨ k = w.heap.size + 1 + 1 ∨ k = w.heap.size + 1 + 1 + 1) w4 W5 := by
          rw [hW5]
          exact Mod.set (Mod.set (Mod.set (Mod.refl _ _) _ _ (.inl (.inl rfl))) _ _ (.inl (.inr (.inl rfl)))) _ _ (.inl (.inr (.inr rfl)))
        have hr2 : Blk W5 (w.heap.size + 1 + 1) #[.int .i64 V] 3 := by
          rw [hW5]
          exact Blk.other (by simp) (((Blk.other (by simp; omega) HE4.out.r2).set 0 _).row (by simp))
        have hr3 : Blk W5 (w.heap.size + 1 + 1 + 1) #[.int .i64 0] 25 := by
          rw [hW5]
          exact ((Blk.other (by simp) (Blk.other (by simp; omega) HE4.out.r3)).set 0 _).row (by simp)
        have hrb : Blk W5 B (crRow M H { c with now := t }) 64 := by
          rw [hW5]
          exact Blk.other (by simp; omega) (Blk.other (by simp; omega) ((HE4.out.cr.row.set 0 _).row (by simp [crRow])))
        have hcr : CrAt W5 B M H { c with now := t } := ⟨hrb, HE4.out.cr.names.mod hm5 (by have := HE4.out.cr.apart.1; omega), HE4.out.cr.hears.mod hm5 (by have := HE4.out.cr.apart.2.1; omega), HE4.out.cr.apart⟩
        have hD5 : W5.heap[D]? = some (.deferred (some [])) := (hm5.block D (Array.getElem?_eq_some_iff.1 HE4.out.hD).1 (by omega)).trans HE4.out.hD
        have hL5 : W5.heap[D + 1]? = some (.loop (rec .busy none)) := (hm5.block (D + 1) (Array.getElem?_eq_some_iff.1 HE4.out.hL).1 (by omega)).trans HE4.out.hL
        have hmw : Mod (· = B) w W5 := (HE4.out.mod.mod (S := (· = B))).trans' hm5 (fun i hi q => by omega)
        have hpm : Mod (fun k => k = D + 1) W5 (W5.putObj (D + 1) (.loop (rec .done (some .ret)))) := Mod.putObj (Mod.refl _ _) _ _ (.inl rfl)
        exact ⟨hL5, .inr ⟨rfl, s, rest, HU.out, .inr ⟨by rw [← HWE.out, HWV.out]; have := HG.out; omega, by rw [← HWE.out, HWV.out]; exact Blk.putObj (by omega) hr2, Blk.putObj (by omega) hr3, hcr.mod hpm (by omega) (by omega) (by omega), obz_put (by omega) hD5, World.putObj_heap_same (Array.getElem?_eq_some_iff.1 hL5).1, Mod.putObj hmw _ _ (.inr (by omega))⟩⟩⟩
    · have HWV := hid (show WT = A by rw [HWT.out, if_neg g0])
      by_cases g1 : 1000000000 < A
      · have HG := hid g1
        gi_wp2
        exact ⟨HE4.out.hL, .inr ⟨rfl, s, rest, HU.out, .inl ⟨by rw [← HWE.out, HWV.out]; exact HG.out, HE4.out.put hPP.out⟩⟩⟩
      · have HG := hid g1
        gi_wp2
        refine name_worldC (p := fun W => RoundEnd _ _ _ _ _ W) (fun W5 hW5 => ?_)
        obtain ⟨p1, p2, p3, p4, p5, p6⟩ := hPP.out
        have hm5 : Mod (fun k => k = B ∨ k = w.heap.size + 1 + 1 ∨ k = w.heap.size + 1 + 1 + 1) w4 W5 := by
          rw [hW5]
          exact Mod.set (Mod.set (Mod.set (Mod.refl _ _) _ _ (.inl (.inl rfl))) _ _ (.inl (.inr (.inl rfl)))) _ _ (.inl (.inr (.inr rfl)))
        have hr2 : Blk W5 (w.heap.size + 1 + 1) #[.int .i64 A] 3 := by
          rw [hW5]
          exact Blk.other (by simp) (((Blk.other (by simp; omega) HE4.out.r2).set 0 _).row (by simp))
        have hr3 : Blk W5 (w.heap.size + 1 + 1 + 1) #[.int .i64 0] 25 := by
          rw [hW5]
          exact ((Blk.other (by simp) (Blk.other (by simp; omega) HE4.out.r3)).set 0 _).row (by simp)
        have hrb : Blk W5 B (crRow M H { c with now := t }) 64 := by
          rw [hW5]
          exact Blk.other (by simp; omega) (Blk.other (by simp; omega) ((HE4.out.cr.row.set 0 _).row (by simp [crRow])))
        have hcr : CrAt W5 B M H { c with now := t } := ⟨hrb, HE4.out.cr.names.mod hm5 (by have := HE4.out.cr.apart.1; omega), HE4.out.cr.hears.mod hm5 (by have := HE4.out.cr.apart.2.1; omega), HE4.out.cr.apart⟩
        have hD5 : W5.heap[D]? = some (.deferred (some [])) := (hm5.block D (Array.getElem?_eq_some_iff.1 HE4.out.hD).1 (by omega)).trans HE4.out.hD
        have hL5 : W5.heap[D + 1]? = some (.loop (rec .busy none)) := (hm5.block (D + 1) (Array.getElem?_eq_some_iff.1 HE4.out.hL).1 (by omega)).trans HE4.out.hL
        have hmw : Mod (· = B) w W5 := (HE4.out.mod.mod (S := (· = B))).trans' hm5 (fun i hi q => by omega)
        have hpm : Mod (fun k => k = D + 1) W5 (W5.putObj (D + 1) (.loop (rec .done (some .ret)))) := Mod.putObj (Mod.refl _ _) _ _ (.inl rfl)
        exact ⟨hL5, .inr ⟨rfl, s, rest, HU.out, .inr ⟨by rw [← HWE.out, HWV.out]; have := HG.out; omega, by rw [← HWE.out, HWV.out]; exact Blk.putObj (by omega) hr2, Blk.putObj (by omega) hr3, hcr.mod hpm (by omega) (by omega) (by omega), obz_put (by omega) hD5, World.putObj_heap_same (Array.getElem?_eq_some_iff.1 hL5).1, Mod.putObj hmw _ _ (.inr (by omega))⟩⟩⟩
  case fin =>
    rintro e W ⟨hv, hA⟩
    rcases hA with ⟨hU, hE⟩ | ⟨f, rest, hU, ⟨hg, hE⟩ | ⟨hg, r2, r3, hc, hD', hL', hm⟩⟩
    · refine ⟨hv, hE.hD, .inl ⟨hE.hL, ?_⟩⟩
      refine name_worldC (p := fun W => Exit.inBlock _ _ _ _ W) (fun W5 hW5 => ?_)
      have h5 : WhE w B M H c t vb a cap U D (.loop (rec .exhausted none)) W5 := by rw [hW5]; exact hE.put hPP.out
      have HX := hid (show c.all = [] by
        have := HP.out.length_eq
        rw [hU] at this
        exact List.eq_nil_of_length_eq_zero this.symm)
      clear hW5 hE hU
      have H5 := hid h5
      have q2 := h5.r2.cellv 0 rfl; have q3 := h5.r3.cellv 0 rfl
      have l2 := h5.r2.lt; have l3 := h5.r3.lt; have f2 := h5.r2.frz 0; have f3 := h5.r3.frz 0
      clear h5
      gi_wp2
      refine name_worldC (p := fun W => bodyPostM _ _ _ _ _ _ _ W) (fun W6 hW6 => ?_)
      obtain ⟨p1, p2, p3, p4, p5, p6⟩ := hPP.out
      have hr2 : Blk W6 (w.heap.size + 1 + 1) #[.int .i64 0] 3 := by
        rw [hW6]
        exact Blk.other (by simp) ((H5.out.r2.set 0 _).row (by simp))
      have hr3 : Blk W6 (w.heap.size + 1 + 1 + 1) #[.int .i64 8] 25 := by
        rw [hW6]
        exact ((Blk.other (by simp) H5.out.r3).set 0 _).row (by simp)
      have D6 : W6.heap[D]? = some (.deferred (some [])) := by
        rw [hW6]
        exact obz_set (by simp; omega) (obz_set (by simp; omega) H5.out.hD)
      have N6 : New w W6 := by
        rw [hW6]
        exact Mod.set (Mod.set H5.out.mod _ _ (.inr (by simp; omega))) _ _ (.inr (by simp; omega))
      clear hW6
      refine ⟨by simp, .inl ⟨_, _, rfl, run_takeDeferred D6, ?_⟩⟩
      have c2 := (Blk.putObj (r := D) (o := .deferred none) (show w.heap.size + 1 + 1 ≠ D by omega) hr2).cellv 0 rfl
      have c3 := (Blk.putObj (r := D) (o := .deferred none) (show w.heap.size + 1 + 1 + 1 ≠ D by omega) hr3).cellv 0 rfl
      have N8 : New w (W6.putObj D (.deferred none)) := Mod.putObj N6 _ _ (.inr (by omega))
      refine ⟨.tuple #[.int .i64 0, .int .i64 8], by simp [results, Tryz.results9, go_sem, c2, c3], ?_⟩
      exact .inl ⟨HX.out, rfl, N8⟩
    · refine ⟨hv, hE.hD, .inr ⟨_, hE.hL, ?_⟩⟩
      refine name_worldC (p := fun W => Code.wpIn _ _ _ _ _ _ W) (fun W5 hW5 => ?_)
      have h5 : WhE w B M H c t vb a cap U D (.loop (rec .exhausted (some (.exit 0)))) W5 := by rw [hW5]; exact hE.put hPP.out
      have HX := hid (And.intro hg (show f ∈ c.all ∧ ∀ m ∈ c.all, c.last f ≤ c.last m by
        have hpp := HP.out; have hww := HPW.out
        rw [hU] at hpp hww
        refine ⟨hpp.mem_iff.1 List.mem_cons_self, fun m hm => ?_⟩
        rcases List.mem_cons.1 (hpp.mem_iff.2 hm) with rfl | hm
        · exact Int.le_refl _
        · exact (List.pairwise_cons.1 hww).1 m hm))
      clear hW5 hE hU hg
      have H5 := hid h5
      have q2 := h5.r2.cellv 0 rfl; have q3 := h5.r3.cellv 0 rfl
      have l2 := h5.r2.lt; have l3 := h5.r3.lt; have f2 := h5.r2.frz 0; have f3 := h5.r3.frz 0
      clear h5
      gi_wp2
      refine name_worldC (p := fun W => bodyPostM _ _ _ _ _ _ _ W) (fun W6 hW6 => ?_)
      obtain ⟨p1, p2, p3, p4, p5, p6⟩ := hPP.out
      have hr2 : Blk W6 (w.heap.size + 1 + 1) #[.int .i64 0] 3 := by
        rw [hW6]
        exact Blk.other (by simp) ((H5.out.r2.set 0 _).row (by simp))
      have hr3 : Blk W6 (w.heap.size + 1 + 1 + 1) #[.int .i64 8] 25 := by
        rw [hW6]
        exact ((Blk.other (by simp) H5.out.r3).set 0 _).row (by simp)
      have D6 : W6.heap[D]? = some (.deferred (some [])) := by
        rw [hW6]
        exact obz_set (by simp; omega) (obz_set (by simp; omega) H5.out.hD)
      have N6 : New w W6 := by
        rw [hW6]
        exact Mod.set (Mod.set H5.out.mod _ _ (.inr (by simp; omega))) _ _ (.inr (by simp; omega))
      clear hW6
      refine ⟨by simp, .inl ⟨_, _, rfl, run_takeDeferred D6, ?_⟩⟩
      have c2 := (Blk.putObj (r := D) (o := .deferred none) (show w.heap.size + 1 + 1 ≠ D by omega) hr2).cellv 0 rfl
      have c3 := (Blk.putObj (r := D) (o := .deferred none) (show w.heap.size + 1 + 1 + 1 ≠ D by omega) hr3).cellv 0 rfl
      have N8 : New w (W6.putObj D (.deferred none)) := Mod.putObj N6 _ _ (.inr (by omega))
      refine ⟨.tuple #[.int .i64 0, .int .i64 8], by simp [results, Tryz.results9, go_sem, c2, c3], ?_⟩
      exact .inr ⟨f, HX.out.2.1, HX.out.2.2, .inl ⟨HX.out.1, rfl, N8⟩⟩
    · refine ⟨hv, hD', .inr ⟨_, hL', ?_⟩⟩
      refine name_worldC (p := fun W => Code.wpIn _ _ _ _ _ _ W) (fun W5 hW5 => ?_)
      obtain ⟨p1, p2, p3, p4, p5, p6⟩ := hPP.out
      have hpm : Mod (fun k => k = D + 1) W W5 := by rw [hW5]; exact Mod.putObj (Mod.refl _ _) _ _ (.inl rfl)
      have hr2 := hpm.blk r2 (by omega); have hr3 := hpm.blk r3 (by omega)
      have D6 : W5.heap[D]? = some (.deferred (some [])) := (hpm.block D (Array.getElem?_eq_some_iff.1 hD').1 (by omega)).trans hD'
      have hc5 := hc.mod hpm (by omega) (by omega) (by omega)
      have hm5 : Mod (· = B) w W5 := hm.trans' hpm (fun i hi q => by omega)
      have HX := hid (show f ∈ c.all ∧ ∀ m ∈ c.all, c.last f ≤ c.last m by
        have hpp := HP.out; have hww := HPW.out
        rw [hU] at hpp hww
        refine ⟨hpp.mem_iff.1 List.mem_cons_self, fun m hm => ?_⟩
        rcases List.mem_cons.1 (hpp.mem_iff.2 hm) with rfl | hm
        · exact Int.le_refl _
        · exact (List.pairwise_cons.1 hww).1 m hm)
      obtain ⟨WT, hWT⟩ : ∃ WT, WT = whenT c.every c.sent t (c.last f) := ⟨_, rfl⟩
      rw [← hWT] at hr2 hg
      have HWT := hid hWT; have HG := hid hg; have HR2 := hid hr2; have HR3 := hid hr3; have HD6 := hid D6; have HC5 := hid hc5; have HM5 := hid hm5
      clear hW5 hU hg hv r2 r3 hc hD' hL' hm hpm hr2 hr3 D6 hc5 hm5 hWT
      gi_wp2
      refine ⟨by simp, .inl ⟨_, _, rfl, run_takeDeferred HD6.out, ?_⟩⟩
      have hpd : Mod (fun k => k = D) W5 (W5.putObj D (.deferred none)) := Mod.putObj (Mod.refl _ _) _ _ (.inl rfl)
      have c2 := (hpd.blk HR2.out (by omega)).cellv 0 rfl
      have c3 := (hpd.blk HR3.out (by omega)).cellv 0 rfl
      refine ⟨.tuple #[.int .i64 WT, .int .i64 0], by simp [results, Tryz.results9, go_sem, c2, c3], ?_⟩
      exact .inr ⟨f, HX.out.1, HX.out.2, .inr ⟨by rw [← HWT.out]; exact HG.out, by rw [HWT.out], HC5.out.mod hpd (by omega) (by omega) (by omega), HM5.out.trans' hpd (fun i hi q => by omega)⟩⟩
end Go.Proofs.YtnflhjagmngimaaGreatDoor
