/-
  Several texts in one, in their build order. The walk of Of, whatever is asked. Conditions: the list lies as told; the library's table is as laid.
-/
import Derived.Test.YtnccfikimmolgaaGreatDoorM37
namespace Go.Proofs.YtnccfikimmolgaaGreatDoor
set_option linter.unusedSimpArgs false
set_option linter.unusedVariables false
open Go.RowKit Go.Shelf

def ofErr (l : List FileV) (piece file : Int) : Int := if wayErr l piece = 0 then (match fileIx l file with | some _ => 0 | none => 7) else wayErr l piece
def ofF (l : List FileV) (piece : Int) (new : Bool) (file : Int) : Int := if wayErr l piece = 0 then (match fileIx l file with | some f => runF l piece new file.toNat f | none => 0) else 0
def ofC (l : List FileV) (piece : Int) (new : Bool) (file : Int) : Int := if wayErr l piece = 0 then (match fileIx l file with | some f => runC l piece new file.toNat f | none => 0) else 0
theorem pieces_small {l : List FileV} {piece : Int} {new : Bool} (v2 : l.length ≤ 40) (v3 : ∀ f ∈ l, 0 ≤ f.len) (v4 : sumOf l ≤ 65536) (p1 : 16 ≤ piece) (p2 : piece ≤ 1024) : piecesOf l piece new ≤ 2800000 := by
  have v5 := each_len v3
  have s0 := (sum_mono l v3 0)
  cases new with
  | false =>
    simp only [piecesOf, Bool.false_eq_true, if_false]
    have := Int.ediv_le_self piece (show 0 ≤ sumOf l + piece - 1 by omega)
    omega
  | true =>
    simp only [piecesOf, if_true]
    have h : ∀ m : List FileV, (∀ f ∈ m, 0 ≤ f.len ∧ f.len ≤ 65536) → countsOf m piece ≤ 70000 * m.length := by
      intro m
      induction m with
      | nil => intro _; simp [countsOf]
      | cons f m ih =>
        intro hm
        have := count_bound (hm f (by simp)).1 (hm f (by simp)).2 p1 p2
        have := ih (fun g hg => hm g (by simp [hg]))
        simp only [countsOf, List.map_cons, List.sum_cons, List.length_cons] at *
        omega
    have := h l (fun f hf => ⟨v3 f hf, by have := v5 f hf; omega⟩)
    omega
set_option maxRecDepth 100000 in
set_option maxHeartbeats 2000000 in
theorem Of_bad (a : Option Addr) (c : Nat) (l : List FileV) (piece file : Int) (new : Bool) (w : World) (h : FilesAt w a c l) (ht : Tab w) (h0 : -9223372036854775808 ≤ piece) (h1 : piece ≤ 9223372036854775807) (hb : wayErr l piece ≠ 0) :
    Calls Tryz.prog 9 #[.slice a l.length c, .int .i64 piece, .bool new, .int .i64 file] w fun e w' => e = .returned (.tuple #[.agg #[.int .i64 0, .int .i64 0], .int .i64 (wayErr l piece)]) ∧ New w w' := by
  have HWY := hid (fun W (n : New w W) => ways_bad a c l piece new W (h.new n) (ht.new n) h0 h1 hb)
  have h3 : ((wayErr l piece) == 0) = false := by simpa using hb
  have h4 : ((wayErr l piece) != 0) = true := by simpa using hb
  clear h ht hb
  go_enter Tryz.func9, Tryz.ntmps9
  go_wp2_with fail
  refine (HWY.out _ ((Mod.refl (fun _ => False) w).alloc _)).mono ?_
  rintro e w1 ⟨rfl, n1⟩
  have N1 := hid (Mod.trans ((Mod.refl (fun _ => False) w).alloc _) n1)
  have B1 := n1.blk (Blk.new w #[.int .i64 0, .int .i64 0] 30)
  have c0 := B1.cellv 0 rfl; have c1 := B1.cellv 1 rfl; have f0 := B1.frz 0; have f1 := B1.frz 1; have fl := B1.lt
  clear n1 B1
  go_wp2
  refine bodyPost_ret (v := .tuple #[.agg #[.int .i64 (0), .int .i64 (0)], .int .i64 (wayErr l piece)]) (by simp [results, Tryz.results9, go_sem, c0, c1, f0, f1, fl]) rfl ⟨rfl, ?_⟩
  repeat (first | with_reducible exact N1.out | with_reducible refine Mod.alloc ?_ _ | with_reducible refine Mod.drew ?_ | with_reducible refine Mod.drewN ?_ _ | (with_reducible refine Mod.set ?_ _ _ (by first | exact .inl rfl | (right; omega) | (right; simp; done) | (right; simp; omega) | (left; omega) | (left; simp; done) | (left; simp; omega))) | (with_reducible refine Mod.putObj ?_ _ _ (by first | exact .inl rfl | (right; omega) | (right; simp; done) | (right; simp; omega) | (left; omega) | (left; simp; done) | (left; simp; omega))))
set_option maxRecDepth 100000 in
set_option maxHeartbeats 2000000 in
theorem Of_out (a : Option Addr) (c : Nat) (l : List FileV) (piece file : Int) (new : Bool) (w : World) (h : FilesAt w a c l) (ht : Tab w) (h0 : -9223372036854775808 ≤ piece) (h1 : piece ≤ 9223372036854775807) (hb : wayErr l piece = 0) (ho : fileIx l file = none) :
    Calls Tryz.prog 9 #[.slice a l.length c, .int .i64 piece, .bool new, .int .i64 file] w fun e w' => e = .returned (.tuple #[.agg #[.int .i64 0, .int .i64 0], .int .i64 7]) ∧ New w w' := by
  have HWY := hid (fun W (n : New w W) => ways_ok a c l piece new W (h.new n) (ht.new n) h0 h1 hb)
  have hr := h.room; have hc := h.cap
  unfold maxLen at hc
  have ho2 := fileIx_none ho
  clear h ht hb ho
  rcases ho2 with h2 | ⟨h2, h3⟩
  all_goals
    cases new
    all_goals
      go_enter Tryz.func9, Tryz.ntmps9
      go_wp2_with fail
      refine (HWY.out _ ((Mod.refl (fun _ => False) w).alloc _)).mono ?_
      simp only [wayV, if_true, Bool.false_eq_true, if_false]
      rintro e w1 ⟨rfl, nw⟩
      have N1 := hid (Mod.trans ((Mod.refl (fun _ => False) w).alloc _) nw)
      have B1 := hid (nw.blk (Blk.new w #[.int .i64 0, .int .i64 0] 30))
      clear nw
      have c0 := (B1.out).cellv 0 rfl; have c1 := (B1.out).cellv 1 rfl; have f0 := (B1.out).frz 0; have f1 := (B1.out).frz 1; have fl := (B1.out).lt
      go_wp2
      refine bodyPost_ret (v := .tuple #[.agg #[.int .i64 (0), .int .i64 (0)], .int .i64 7]) (by simp [results, Tryz.results9, go_sem, c0, c1, f0, f1, fl]) rfl ⟨rfl, ?_⟩
      repeat (first | with_reducible exact N1.out | with_reducible refine Mod.alloc ?_ _ | with_reducible refine Mod.drew ?_ | with_reducible refine Mod.drewN ?_ _ | (with_reducible refine Mod.set ?_ _ _ (by first | exact .inl rfl | (right; omega) | (right; simp; done) | (right; simp; omega) | (left; omega) | (left; simp; done) | (left; simp; omega))) | (with_reducible refine Mod.putObj ?_ _ _ (by first | exact .inl rfl | (right; omega) | (right; simp; done) | (right; simp; omega) | (left; omega) | (left; simp; done) | (left; simp; omega))))
set_option maxRecDepth 100000 in
set_option maxHeartbeats 2000000 in
theorem Of_in (a : Option Addr) (c : Nat) (l : List FileV) (piece : Int) (k : Nat) (new : Bool) (w : World) (h : FilesAt w a c l) (ht : Tab w) (h0 : -9223372036854775808 ≤ piece) (h1 : piece ≤ 9223372036854775807) (hb : wayErr l piece = 0) (hk : k < l.length) :
    Calls Tryz.prog 9 #[.slice a l.length c, .int .i64 piece, .bool new, .int .i64 k] w fun e w' => e = .returned (.tuple #[.agg #[.int .i64 (runF l piece new k l[k]), .int .i64 (runC l piece new k l[k])], .int .i64 0]) ∧ New w w' := by
  obtain ⟨hv, hpp⟩ := way_ok hb
  obtain ⟨v1, v2, v3, v4⟩ := valid_facts hv
  have v5 := each_len v3
  obtain ⟨p1, p2⟩ := piece_range hpp
  have HWY := hid (fun W (n : New w W) => ways_ok a c l piece new W (h.new n) (ht.new n) h0 h1 hb)
  have hr := h.room; have hc := h.cap
  unfold maxLen at hc
  have hle := v5 _ (List.getElem_mem hk)
  have hl0 := v3 _ (List.getElem_mem hk)
  have HRA := hid (fun at' (q0 : 0 ≤ at') (q1 : at' ≤ 65536) W (n : New w W) => row_at a c l piece k at' W (h.new n) hk v3 v4 p1 p2 q0 q1)
  have HAA := hid (fun at' (q0 : 0 ≤ at') (q1 : at' ≤ 65536) W (n : New w W) => apart_at a c l piece k at' W (h.new n) v2 hk (fun f hf => ⟨v3 f hf, by have := v5 f hf; omega⟩) p1 p2 q0 q1)
  have hbd : hasW new l[k] = true → 0 ≤ atI l piece new k 0 ∧ atI l piece new k 0 ≤ atI l piece new k (l[k].len - 1) ∧ atI l piece new k (l[k].len - 1) < piecesOf l piece new := by
    intro hh
    obtain ⟨x1, x2, x3, x4⟩ := run_bd (piece := piece) (new := new) (by omega) v3 hk
    have x5 := x4 hh
    unfold runF at x1
    unfold runC at x5
    rw [if_pos hh] at x1 x5
    clear x2 x3 x4
    simp only [hasW, Bool.and_eq_true, decide_eq_true_eq, Bool.not_eq_true'] at hh
    have q2 := (atI_bd (piece := piece) (new := new) (at' := l[k].len - 1) (by omega) v3 hk (by omega) (by omega) hh.2).2
    omega
  have hpb : piecesOf l piece new ≤ 2800000 := pieces_small v2 v3 v4 p1 p2
  obtain ⟨b1, o1, rfl, hb1, hc1⟩ := h.get (by omega)
  have hkI : (k : Int) < (l.length : Int) := by omega
  have HC1 := hid (fun W (n : New w W) => (hc1 k hk).new n)
  unfold runF runC
  obtain ⟨f, hf⟩ : ∃ f, f = l[k] := ⟨_, rfl⟩
  rw [← hf] at HC1 hle hl0 hbd ⊢
  have m1 := meth_ahas; have m2 := meth_rhas; have m3 := meth_aat; have m4 := meth_rat
  have m5 := nila_has; have m6 := nilr_has; have m7 := nila_at; have m8 := nilr_at
  have hmf : ∀ (fn : Fn) (first cap : Array Value) (w : World), (Instr.makeFunc fn first cap).run Tryz.prog w = .ok (.func fn first cap) w := fun _ _ _ _ => rfl
  clear h ht hb hv hpp v1 v2 v3 v5 hc1 hf
  cases new with
  | true =>
    have HHS := hid (fun pa pc W => has_any (some ⟨b1, o1, none⟩) l.length c piece pa pc f W)
    have e : hasN f = hasW true f := by simp [hasN, hasW]
    rw [e] at HHS
    clear e HRA
    cases hh : hasW true f with
    | false =>
      rw [hh] at HHS
      clear hbd hh HAA
      simp only [Bool.false_eq_true, if_false]
      go_enter Tryz.func9, Tryz.ntmps9
      go_wp2_with fail
      refine (HWY.out _ ((Mod.refl (fun _ => False) w).alloc _)).mono ?_
      simp only [wayV, if_true, Bool.false_eq_true, if_false]
      rintro e w1 ⟨rfl, nw⟩
      have N1 := hid (Mod.trans ((Mod.refl (fun _ => False) w).alloc _) nw)
      have B1 := hid (nw.blk (Blk.new w #[.int .i64 0, .int .i64 0] 30))
      obtain ⟨pa, pc, d0, d1, d2, -, -⟩ := HC1.out w1 N1.out
      have hbw : b1 < w1.heap.size := by have := N1.out.size; omega
      clear nw
      go_wp2
      go_region_held3 (fun w' => w'.cell? ⟨b1, o1 + k * 3, none⟩ = some (.slice pa f.path.length pc) ∧ w'.cell? ⟨b1, o1 + k * 3 + 1, none⟩ = some (.int .i64 f.len) ∧ w'.cell? ⟨b1, o1 + k * 3 + 2, none⟩ = some (.bool f.pad)) ((first | exact ⟨r0, r1, r2⟩ | go_keep)) ((go_at_call 167; (with_reducible refine (HHS.out pa pc _).mono ?_); rintro e w2 ⟨rfl, n2⟩; have N2 := hid (Mod.trans (Mod.drew N1.out) n2); have B2 := hid (n2.blk B1.out.drew); have r0 := n2.cellv d0; have r1 := n2.cellv d1; have r2 := n2.cellv d2; clear n2))
      have c0 := (B2.out).cellv 0 rfl; have c1 := (B2.out).cellv 1 rfl; have f0 := (B2.out).frz 0; have f1 := (B2.out).frz 1; have fl := (B2.out).lt
      go_wp2
      refine bodyPost_ret (v := .tuple #[.agg #[.int .i64 (0), .int .i64 (0)], .int .i64 0]) (by simp [results, Tryz.results9, go_sem, c0, c1, f0, f1, fl]) rfl ⟨rfl, ?_⟩
      repeat (first | with_reducible exact N2.out | with_reducible refine Mod.alloc ?_ _ | with_reducible refine Mod.drew ?_ | with_reducible refine Mod.drewN ?_ _ | (with_reducible refine Mod.set ?_ _ _ (by first | exact .inl rfl | (right; omega) | (right; simp; done) | (right; simp; omega) | (left; omega) | (left; simp; done) | (left; simp; omega))) | (with_reducible refine Mod.putObj ?_ _ _ (by first | exact .inl rfl | (right; omega) | (right; simp; done) | (right; simp; omega) | (left; omega) | (left; simp; done) | (left; simp; omega))))
    | true =>
      rw [hh] at HHS
      obtain ⟨q0, q1, q2⟩ := hbd hh
      have hlp : 0 < f.len := by simp [hasW] at hh; omega
      have HA0 := hid (HAA.out 0 (by omega) (by omega))
      have HA1 := hid (HAA.out (f.len - 1) (by omega) (by omega))
      simp only [if_true]
      clear hbd hh HAA
      obtain ⟨I, hI⟩ : ∃ I, I = atI l piece true k 0 := ⟨_, rfl⟩
      obtain ⟨J, hJ⟩ : ∃ J, J = atI l piece true k (f.len - 1) := ⟨_, rfl⟩
      rw [← hI] at HA0 q0 q1 ⊢
      rw [← hJ] at HA1 q1 q2 ⊢
      have HWL := hid (IntWalk.i64_in (f.len - 1) (by omega))
      clear hI hJ
      go_enter Tryz.func9, Tryz.ntmps9
      go_wp2_with fail
      refine (HWY.out _ ((Mod.refl (fun _ => False) w).alloc _)).mono ?_
      simp only [wayV, if_true, Bool.false_eq_true, if_false]
      rintro e w1 ⟨rfl, nw⟩
      have N1 := hid (Mod.trans ((Mod.refl (fun _ => False) w).alloc _) nw)
      have B1 := hid (nw.blk (Blk.new w #[.int .i64 0, .int .i64 0] 30))
      obtain ⟨pa, pc, d0, d1, d2, -, -⟩ := HC1.out w1 N1.out
      have hbw : b1 < w1.heap.size := by have := N1.out.size; omega
      clear nw
      go_wp2
      go_region_held3 (fun w' => w'.cell? ⟨b1, o1 + k * 3, none⟩ = some (.slice pa f.path.length pc) ∧ w'.cell? ⟨b1, o1 + k * 3 + 1, none⟩ = some (.int .i64 f.len) ∧ w'.cell? ⟨b1, o1 + k * 3 + 2, none⟩ = some (.bool f.pad)) ((first | exact ⟨r0, r1, r2⟩ | go_keep)) ((go_at_call 167; (with_reducible refine (HHS.out pa pc _).mono ?_); rintro e w2 ⟨rfl, n2⟩; have N2 := hid (Mod.trans (Mod.drew N1.out) n2); have B2 := hid (n2.blk B1.out.drew); have r0 := n2.cellv d0; have r1 := n2.cellv d1; have r2 := n2.cellv d2; clear n2))
      clear d0 d1 d2 r0 r2
      go_wp2_with fail
      refine (HA0.out _ N2.out).mono ?_
      rintro e w3 ⟨rfl, n3⟩
      have N3 := hid (N2.out.trans n3)
      have B3 := hid (n3.blk B2.out)
      have r4 := n3.cellv r1
      have hbw3 : b1 < w3.heap.size := by have := N3.out.size; omega
      clear n3 r1 hbw
      go_wp2
      go_region_held3 (fun w' => w'.cell? ⟨b1, o1 + k * 3 + 1, none⟩ = some (.int .i64 f.len)) ((first | exact r5 | go_keep)) ((go_at_call 166; rw [HWL.out]; (with_reducible refine (HA1.out _ (Mod.drew N3.out)).mono ?_); rintro e w4 ⟨rfl, n4⟩; have N4 := hid (Mod.trans (Mod.drew N3.out) n4); have B4 := hid (n4.blk B3.out.drew); have r5 := n4.cellv r4; clear n4))
      have c0 := (B4.out).cellv 0 rfl; have c1 := (B4.out).cellv 1 rfl; have f0 := (B4.out).frz 0; have f1 := (B4.out).frz 1; have fl := (B4.out).lt
      go_wp2
      refine bodyPost_ret (v := .tuple #[.agg #[.int .i64 (I), .int .i64 (J - I + 1)], .int .i64 0]) (by simp [results, Tryz.results9, go_sem, c0, c1, f0, f1, fl]) rfl ⟨rfl, ?_⟩
      repeat (first | with_reducible exact N4.out | with_reducible refine Mod.alloc ?_ _ | with_reducible refine Mod.drew ?_ | with_reducible refine Mod.drewN ?_ _ | (with_reducible refine Mod.set ?_ _ _ (by first | exact .inl rfl | (right; omega) | (right; simp; done) | (right; simp; omega) | (left; omega) | (left; simp; done) | (left; simp; omega))) | (with_reducible refine Mod.putObj ?_ _ _ (by first | exact .inl rfl | (right; omega) | (right; simp; done) | (right; simp; omega) | (left; omega) | (left; simp; done) | (left; simp; omega))))
  | false =>
    have HHS := hid (fun pa pc W => rowhas_any (some ⟨b1, o1, none⟩) l.length c piece pa pc f W)
    clear HAA
    cases hh : hasW false f with
    | false =>
      rw [hh] at HHS
      clear hbd hh HRA
      simp only [Bool.false_eq_true, if_false]
      go_enter Tryz.func9, Tryz.ntmps9
      go_wp2_with fail
      refine (HWY.out _ ((Mod.refl (fun _ => False) w).alloc _)).mono ?_
      simp only [wayV, if_true, Bool.false_eq_true, if_false]
      rintro e w1 ⟨rfl, nw⟩
      have N1 := hid (Mod.trans ((Mod.refl (fun _ => False) w).alloc _) nw)
      have B1 := hid (nw.blk (Blk.new w #[.int .i64 0, .int .i64 0] 30))
      obtain ⟨pa, pc, d0, d1, d2, -, -⟩ := HC1.out w1 N1.out
      have hbw : b1 < w1.heap.size := by have := N1.out.size; omega
      clear nw
      go_wp2
      go_region_held3 (fun w' => w'.cell? ⟨b1, o1 + k * 3, none⟩ = some (.slice pa f.path.length pc) ∧ w'.cell? ⟨b1, o1 + k * 3 + 1, none⟩ = some (.int .i64 f.len) ∧ w'.cell? ⟨b1, o1 + k * 3 + 2, none⟩ = some (.bool f.pad)) ((first | exact ⟨r0, r1, r2⟩ | go_keep)) ((go_at_call 173; (with_reducible refine (HHS.out pa pc _).mono ?_); rintro e w2 ⟨rfl, n2⟩; have N2 := hid (Mod.trans (Mod.drew N1.out) n2); have B2 := hid (n2.blk B1.out.drew); have r0 := n2.cellv d0; have r1 := n2.cellv d1; have r2 := n2.cellv d2; clear n2))
      have c0 := (B2.out).cellv 0 rfl; have c1 := (B2.out).cellv 1 rfl; have f0 := (B2.out).frz 0; have f1 := (B2.out).frz 1; have fl := (B2.out).lt
      go_wp2
      refine bodyPost_ret (v := .tuple #[.agg #[.int .i64 (0), .int .i64 (0)], .int .i64 0]) (by simp [results, Tryz.results9, go_sem, c0, c1, f0, f1, fl]) rfl ⟨rfl, ?_⟩
      repeat (first | with_reducible exact N2.out | with_reducible refine Mod.alloc ?_ _ | with_reducible refine Mod.drew ?_ | with_reducible refine Mod.drewN ?_ _ | (with_reducible refine Mod.set ?_ _ _ (by first | exact .inl rfl | (right; omega) | (right; simp; done) | (right; simp; omega) | (left; omega) | (left; simp; done) | (left; simp; omega))) | (with_reducible refine Mod.putObj ?_ _ _ (by first | exact .inl rfl | (right; omega) | (right; simp; done) | (right; simp; omega) | (left; omega) | (left; simp; done) | (left; simp; omega))))
    | true =>
      rw [hh] at HHS
      obtain ⟨q0, q1, q2⟩ := hbd hh
      have hlp : 0 < f.len := by simp [hasW] at hh; omega
      have HA0 := hid (HRA.out 0 (by omega) (by omega))
      have HA1 := hid (HRA.out (f.len - 1) (by omega) (by omega))
      simp only [if_true]
      clear hbd hh HRA
      obtain ⟨I, hI⟩ : ∃ I, I = atI l piece false k 0 := ⟨_, rfl⟩
      obtain ⟨J, hJ⟩ : ∃ J, J = atI l piece false k (f.len - 1) := ⟨_, rfl⟩
      rw [← hI] at HA0 q0 q1 ⊢
      rw [← hJ] at HA1 q1 q2 ⊢
      have HWL := hid (IntWalk.i64_in (f.len - 1) (by omega))
      clear hI hJ
      go_enter Tryz.func9, Tryz.ntmps9
      go_wp2_with fail
      refine (HWY.out _ ((Mod.refl (fun _ => False) w).alloc _)).mono ?_
      simp only [wayV, if_true, Bool.false_eq_true, if_false]
      rintro e w1 ⟨rfl, nw⟩
      have N1 := hid (Mod.trans ((Mod.refl (fun _ => False) w).alloc _) nw)
      have B1 := hid (nw.blk (Blk.new w #[.int .i64 0, .int .i64 0] 30))
      obtain ⟨pa, pc, d0, d1, d2, -, -⟩ := HC1.out w1 N1.out
      have hbw : b1 < w1.heap.size := by have := N1.out.size; omega
      clear nw
      go_wp2
      go_region_held3 (fun w' => w'.cell? ⟨b1, o1 + k * 3, none⟩ = some (.slice pa f.path.length pc) ∧ w'.cell? ⟨b1, o1 + k * 3 + 1, none⟩ = some (.int .i64 f.len) ∧ w'.cell? ⟨b1, o1 + k * 3 + 2, none⟩ = some (.bool f.pad)) ((first | exact ⟨r0, r1, r2⟩ | go_keep)) ((go_at_call 173; (with_reducible refine (HHS.out pa pc _).mono ?_); rintro e w2 ⟨rfl, n2⟩; have N2 := hid (Mod.trans (Mod.drew N1.out) n2); have B2 := hid (n2.blk B1.out.drew); have r0 := n2.cellv d0; have r1 := n2.cellv d1; have r2 := n2.cellv d2; clear n2))
      clear d0 d1 d2 r0 r2
      go_wp2_with fail
      refine (HA0.out _ N2.out).mono ?_
      rintro e w3 ⟨rfl, n3⟩
      have N3 := hid (N2.out.trans n3)
      have B3 := hid (n3.blk B2.out)
      have r4 := n3.cellv r1
      have hbw3 : b1 < w3.heap.size := by have := N3.out.size; omega
      clear n3 r1 hbw
      go_wp2
      go_region_held3 (fun w' => w'.cell? ⟨b1, o1 + k * 3 + 1, none⟩ = some (.int .i64 f.len)) ((first | exact r5 | go_keep)) ((go_at_call 172; rw [HWL.out]; (with_reducible refine (HA1.out _ (Mod.drew N3.out)).mono ?_); rintro e w4 ⟨rfl, n4⟩; have N4 := hid (Mod.trans (Mod.drew N3.out) n4); have B4 := hid (n4.blk B3.out.drew); have r5 := n4.cellv r4; clear n4))
      have c0 := (B4.out).cellv 0 rfl; have c1 := (B4.out).cellv 1 rfl; have f0 := (B4.out).frz 0; have f1 := (B4.out).frz 1; have fl := (B4.out).lt
      go_wp2
      refine bodyPost_ret (v := .tuple #[.agg #[.int .i64 (I), .int .i64 (J - I + 1)], .int .i64 0]) (by simp [results, Tryz.results9, go_sem, c0, c1, f0, f1, fl]) rfl ⟨rfl, ?_⟩
      repeat (first | with_reducible exact N4.out | with_reducible refine Mod.alloc ?_ _ | with_reducible refine Mod.drew ?_ | with_reducible refine Mod.drewN ?_ _ | (with_reducible refine Mod.set ?_ _ _ (by first | exact .inl rfl | (right; omega) | (right; simp; done) | (right; simp; omega) | (left; omega) | (left; simp; done) | (left; simp; omega))) | (with_reducible refine Mod.putObj ?_ _ _ (by first | exact .inl rfl | (right; omega) | (right; simp; done) | (right; simp; omega) | (left; omega) | (left; simp; done) | (left; simp; omega))))
theorem Of_any (a : Option Addr) (c : Nat) (l : List FileV) (piece file : Int) (new : Bool) (w : World) (h : FilesAt w a c l) (ht : Tab w) (h0 : -9223372036854775808 ≤ piece) (h1 : piece ≤ 9223372036854775807) :
    Calls Tryz.prog 9 #[.slice a l.length c, .int .i64 piece, .bool new, .int .i64 file] w fun e w' => e = .returned (.tuple #[.agg #[.int .i64 (ofF l piece new file), .int .i64 (ofC l piece new file)], .int .i64 (ofErr l piece file)]) ∧ New w w' := by
  unfold ofF ofC ofErr
  by_cases hb : wayErr l piece = 0
  · simp only [hb, if_true]
    cases hx : fileIx l file with
    | none => exact Of_out a c l piece file new w h ht h0 h1 hb hx
    | some f =>
      obtain ⟨k, rfl, hk, hf⟩ := fileIx_some hx
      subst hf
      exact Of_in a c l piece k new w h ht h0 h1 hb hk
  · simp only [if_neg hb]
    exact Of_bad a c l piece file new w h ht h0 h1 hb
end Go.Proofs.YtnccfikimmolgaaGreatDoor
