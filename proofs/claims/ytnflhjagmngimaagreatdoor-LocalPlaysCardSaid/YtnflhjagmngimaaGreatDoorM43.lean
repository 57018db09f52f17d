/-
  Several texts in one, in their build order. The walk of a Hear that is heeded (the reference's crier). Conditions: the crier lies as told; the library's variables are laid.
-/
import Derived.Test.YtnflhjagmngimaaGreatDoorM42
import Derived.Deep.AppendLies
namespace Go.Proofs.YtnflhjagmngimaaGreatDoor
set_option linter.unusedSimpArgs false
set_option linter.unusedVariables false
open Go.RowKit Go.Shelf

theorem rhear_parts {r : RcV} {t : Int} {x : AdrV} {s : ByteArray} (h : r.hearE t x s = 0) : adrOk x = true ∧ s.size ≤ 1400 ∧ r.atE t = 0 ∧ psE s = 0 ∧ (psM s).cookie.data ≠ r.cook.data ∧ cntP r.heard x.ip (t / 60000) < 20 := by
  unfold RcV.hearE at h
  cases ga : adrOk x with
  | false => rw [if_pos ga] at h; simp at h
  | true =>
    rw [if_neg (by rw [ga]; decide)] at h
    by_cases g1 : 1400 < s.size
    · rw [if_pos g1] at h; simp at h
    · rw [if_neg g1] at h
      by_cases g2 : r.atE t ≠ 0
      · rw [if_pos g2] at h; simp at h
      · rw [if_neg g2] at h
        by_cases g3 : psE s ≠ 0
        · rw [if_pos g3] at h; exact absurd h g3
        · rw [if_neg g3] at h
          by_cases g4 : (psM s).cookie.data = r.cook.data
          · rw [if_pos g4] at h; simp at h
          · rw [if_neg g4] at h
            by_cases g5 : 20 ≤ cntP r.heard x.ip (t / 60000)
            · rw [if_pos g5] at h; simp at h
            · exact ⟨rfl, by omega, by omega, by omega, g4, by omega⟩
def inR (r : RcV) (k : ByteArray) : Bool := decide (0 ≤ idxP r.all k)
/-- A message heard is noted: what append leaves. -/
theorem hear_append {W : World} {R : Nat} {aa ah : Option Addr} {ca ch : Nat} {q : RcV} (h : RcAt W R aa ah ca ch q) (hm : q.heard.length < 1000000) (ip : ByteArray) (mn : Int) :
    ∃ (ah' : Option Addr) (ch' : Nat) (W' : World), (Builtin.append_ #[87, 87] 87 #[.slice ah q.heard.length ch, .slice (some ⟨W.heap.size, 0, none⟩) 1 1]).run Tryz.prog (W.alloc (.cells #[.string ip, .int .i64 mn] 95)) = .ok (.slice ah' (q.heard.length + 1) ch') W' ∧
      W'.ownsRow (R + 1) 95 2 (.slice ah' (q.heard.length + 1) ch') (q.heard.length + 1) (pairRow (q.heard ++ [(ip, mn)])) ∧ (W.alloc (.cells #[.string ip, .int .i64 mn] 95)).grownBy W' (Value.slice ah q.heard.length ch).ownBlock := by
  obtain ⟨i0, hi, hz0, hz1, hz2⟩ := info_parts info_hrd
  obtain ⟨v', w', hr, h2, h3, -, -⟩ := run_append_own_at (P := Tryz.prog) (W.alloc (.cells #[.string ip, .int .i64 mn] 95)) (R + 1) 87 87 95 i0 _ 2 24 Tryz.underlying87 hi hz0 hz1 hz2 rfl (by decide)
    (.slice ah q.heard.length ch) q.heard.length (pairRow q.heard) (ownsP_new h.heard ((Mod.refl _ _).alloc _)) ⟨W.heap.size, 0, none⟩ 1 1 [.string ip, .int .i64 mn] rfl (two_newP W (.string ip) (.int .i64 mn) _ rfl) (by intro u hu; simp at hu; rcases hu with rfl | rfl <;> rfl) (by unfold maxLen; omega) (by omega) (by have := h.row.lt; simp; omega)
  obtain ⟨ah', ch', rfl⟩ : ∃ ah' ch', v' = .slice ah' (q.heard.length + 1) ch' := by
    rcases h2.2 with ⟨e, hz⟩ | ⟨g9, cap9, cur9, e, -⟩
    · omega
    · exact ⟨_, _, e⟩
  refine ⟨ah', ch', w', hr, ?_, h3⟩
  rw [pairRow_app]
  exact h2
set_option maxRecDepth 100000 in
set_option maxHeartbeats 16000000 in
theorem rHear_yes (R : Nat) (aa ah : Option Addr) (ca ch : Nat) (r : RcV) (t : Int) (x : AdrV) (s : ByteArray) (w : World) (h : RcAt w R aa ah ca ch r) (ho : RcOk r) (hv : ∀ W, Mod (· = R) w W → VarsL W) (hs : x.ip.size ≤ maxLen) (hok : r.hearE t x s = 0) (hpl : (psM s).names.length ≤ 20) (hmn : r.heard.length < 1000000) :
    Calls Tryz.prog 23 #[.pointer (some ⟨R, 0, none⟩), .int .i64 t, .agg #[.int .i64 x.fam, .string x.ip, .int .i64 x.port], .string s] w fun e w' =>
      ∃ (ah' : Option Addr) (ch' : Nat) (a : Option Addr) (cap : Nat), e = .returned (.tuple #[.slice a ((psM s).names.filter (inR r)).length cap, .agg #[.int .i64 x.fam, .string x.ip, .int .i64 (psM s).port], .int .i64 0]) ∧ StrsAt w' a cap ((psM s).names.filter (inR r)) ∧
        RcAt w' R aa ah' ca ch' (r.hearC t x.ip) ∧ Mod (fun k => k = R ∨ ∃ x, ah = some x ∧ x.block = k) w w' := by
  obtain ⟨fam, ip, port⟩ := x
  obtain ⟨ga, gl, gt, ge, gk, gf⟩ := rhear_parts hok
  simp only at hs gf ⊢
  have HC := hid (fun W (n : New w W) => h.new n)
  have HV := hid hv
  have hRl := h.row.lt
  have hmany := ho.many; have hnow := ho.now; have hfew := ho.few
  have e1 : ¬ (1400 : Int) < (s.size : Int) := by omega
  have HAT := hid (fun W (n : New w W) => rat_go R aa ah ca ch r t W (HC.out W n) gt)
  have HPS := hid (fun W (n : Mod (· = R) w W) => rParse_new s W (HV.out W n) (by unfold maxLen; omega))
  obtain ⟨t0, t1⟩ := ratE_zero gt
  have hk1 : ((psM s).cookie.toList == r.cook.toList) = false := by
    rw [beq_eq_false_iff_ne, ByteArray.toList_eq, ByteArray.toList_eq]
    intro q
    exact gk (by cases hm : (psM s).cookie.data; cases hc : r.cook.data; rw [hm, hc] at q; simp at q; rw [q])
  obtain ⟨m, hm⟩ : ∃ m, m = psM s := ⟨_, rfl⟩
  rw [← hm] at hk1 hpl ⊢
  rw [← hm, ge] at HPS
  have hq : t.tdiv 60000 = t / 60000 := Int.tdiv_eq_ediv_of_nonneg (by omega)
  have hqw : IntKind.i64.wrap (t / 60000) = t / 60000 := by rw [IntKind.wrap_i64]; omega
  have HCN := hid (fun W (q : RcAt W R aa ah ca ch { r with now := t }) => count_any R aa ah ca ch _ ip (t / 60000) W q hmany)
  have eg : decide (((cntP r.heard ip (t / 60000) : Nat) : Int) ≥ 20) = false := decide_eq_false (by omega)
  have eg2 : ¬ (20 : Int) ≤ ((cntP r.heard ip (t / 60000) : Nat) : Int) := by omega
  clear hok gl gt ge gk hm gf h hv
  have HAV := hid (fun W => radr_any ⟨fam, ip, port⟩ W hs)
  simp only [ga] at HAV
  go_enter Tryz.func23, Tryz.ntmps23
  go_wp2_with fail
  refine (HAV.out _).mono ?_
  rintro e w1 ⟨rfl, n1⟩
  have B6 := hid (New.blk n1 ((Blk.new w #[.int .i64 fam, .string ip, .int .i64 port] 40).alloc (.cells #[.int .i64 0, .string ⟨#[]⟩, .int .i64 0] 40)))
  have B9 := hid (New.blk n1 (Blk.newAt (w := w.alloc (.cells #[.int .i64 fam, .string ip, .int .i64 port] 40)) (b := w.heap.size + 1) (cs := #[.int .i64 0, .string ⟨#[]⟩, .int .i64 0]) (t := 40) (by simp)))
  have N1 := hid ((((Mod.refl (fun _ => False) w).alloc _).alloc _).trans n1)
  have R1 := hid (HC.out w1 N1.out)
  clear n1
  have z0 := B9.out.cellv 0 rfl; have z1 := B9.out.cellv 1 rfl; have z2 := B9.out.cellv 2 rfl; have zl := B9.out.lt
  have y0 := B9.out.frz 0; have y1 := B9.out.frz 1; have y2 := B9.out.frz 2
  have q5 : w1.cell? ⟨R, 5, none⟩ = some (.int .i64 r.now) := R1.out.row.cellv 5 rfl
  have ql := R1.out.row.lt
  go_wp2_with fail
  refine (HAT.out _ N1.out).mono ?_
  rintro e w2 ⟨rfl, r2, m2⟩
  have R2 := hid r2
  have M2 : Hid (Mod (· = R) w w2) := hid ((New.mod N1.out).trans m2)
  have B9a := hid (m2.blk B9.out (by omega))
  have B6a := hid (m2.blk B6.out (by omega))
  clear r2 m2 z0 z1 z2 zl y0 y1 y2 q5 ql
  go_wp2_with fail
  refine (HPS.out _ M2.out).mono ?_
  rintro e w3 ⟨a3, c3, rfl, s3, n3, hb3⟩
  have S3 := hid s3
  have HB3 := hid hb3
  have HZ23 := hid n3.size
  have R3 := hid (R2.out.new n3)
  have M3 := hid (M2.out.trans (New.mod n3))
  have B9b := hid ((New.blk n3 B9a.out).alloc (.cells #[.int .i64 m.port, .slice a3 m.names.length c3, .string m.cookie] 34))
  have B6b := hid ((New.blk n3 B6a.out).alloc (.cells #[.int .i64 m.port, .slice a3 m.names.length c3, .string m.cookie] 34))
  have R3b := hid (R3.out.row.alloc (.cells #[.int .i64 m.port, .slice a3 m.names.length c3, .string m.cookie] 34))
  clear s3 n3 hb3
  go_wp2_with fail
  refine name_worldC (p := fun W => Code.wp _ _ _ _ W) (fun W4 hW4 => ?_)
  have B12 : Hid (Blk W4 w3.heap.size #[.int .i64 m.port, .slice a3 m.names.length c3, .string m.cookie] 34) := hid (by rw [hW4]; exact Blk.new w3 _ _)
  have B9c : Hid (Blk W4 (w.heap.size + 1) #[.int .i64 0, .string ⟨#[]⟩, .int .i64 0] 40) := hid (by rw [hW4]; exact B9b.out)
  have B6c : Hid (Blk W4 w.heap.size #[.int .i64 fam, .string ip, .int .i64 port] 40) := hid (by rw [hW4]; exact B6b.out)
  have N34 : Hid (New w3 W4) := hid (by rw [hW4]; exact (Mod.refl _ _).alloc _)
  have R4 := hid (R3.out.new N34.out)
  have M4 : Hid (Mod (· = R) w W4) := hid (M3.out.trans (New.mod N34.out))
  have S4 := hid (S3.out.new N34.out)
  clear hW4
  have d2 : W4.cell? ⟨w3.heap.size, 2, none⟩ = some (.string m.cookie) := B12.out.cellv 2 rfl
  have k1 : W4.cell? ⟨R, 0, none⟩ = some (.string r.cook) := R4.out.row.cellv 0 rfl
  have kl := R4.out.row.lt
  refine wp_region_held_drew (S := (fun w' => w'.cell? ⟨w3.heap.size, 2, none⟩ = some (.string m.cookie) ∧ w'.cell? ⟨R, 0, none⟩ = some (.string r.cook))) (by kernel_rfl) ⟨d2, k1⟩ (fun hHeld => ?_)
  refine tk (v := ?_) 0 ?_ ?_
  rotate_left
  · intro w hSw
    (try dsimp only at hSw)
    first | (go_simp; done) | (go_simp; with_reducible rfl) | with_reducible rfl
  simp only [Act.put, List.setIfInBounds_toArray, List.set_cons_zero, List.set_cons_succ]
  refine tk (v := ?_) 1 ?_ ?_
  rotate_left
  · intro w hSw
    (try dsimp only at hSw)
    first | (go_simp; done) | (go_simp; with_reducible rfl) | with_reducible rfl
  simp only [Act.put, List.setIfInBounds_toArray, List.set_cons_zero, List.set_cons_succ]
  refine tk (v := ?_) 2 ?_ ?_
  rotate_left
  · intro w hSw
    (try dsimp only at hSw)
    first | (go_simp; done) | (go_simp; with_reducible rfl) | with_reducible rfl
  simp only [Act.put, List.setIfInBounds_toArray, List.set_cons_zero, List.set_cons_succ]
  refine tk (v := ?_) 3 ?_ ?_
  rotate_left
  · intro w hSw
    (try dsimp only at hSw)
    first | (go_simp; done) | (go_simp; with_reducible rfl) | with_reducible rfl
  simp only [Act.put, List.setIfInBounds_toArray, List.set_cons_zero, List.set_cons_succ]
  refine tk (v := ?_) 4 ?_ ?_
  rotate_left
  · intro w hSw
    (try dsimp only at hSw)
    first | (go_simp; done) | (go_simp; with_reducible rfl) | with_reducible rfl
  simp only [Act.put, List.setIfInBounds_toArray, List.set_cons_zero, List.set_cons_succ]
  refine tk (v := ?_) 5 ?_ ?_
  rotate_left
  · intro w hSw
    (try dsimp only at hSw)
    first | (go_simp; done) | (go_simp; with_reducible rfl) | with_reducible rfl
  simp only [Act.put, List.setIfInBounds_toArray, List.set_cons_zero, List.set_cons_succ]
  refine tk (v := ?_) 6 ?_ ?_
  rotate_left
  · intro w hSw
    (try dsimp only at hSw)
    first | (go_simp; done) | (go_simp; with_reducible rfl) | with_reducible rfl
  simp only [Act.put, List.setIfInBounds_toArray, List.set_cons_zero, List.set_cons_succ]
  refine tk (v := ?_) 7 ?_ ?_
  rotate_left
  · intro w hSw
    (try dsimp only at hSw)
    first | (go_simp; done) | (go_simp; with_reducible rfl) | with_reducible rfl
  simp only [Act.put, List.setIfInBounds_toArray, List.set_cons_zero, List.set_cons_succ]
  refine wpAnyH_done (by kernel_rfl) ?_ _
  have b1 : W4.cell? ⟨w.heap.size, 1, none⟩ = some (.string ip) := B6c.out.cellv 1 rfl
  have bl := B6c.out.lt
  go_wp2_with fail
  refine (HCN.out _ (R4.out.new ((Mod.refl _ _).drew))).mono ?_
  rintro e w5 ⟨rfl, n5⟩
  have n45 : New W4 w5 := ((Mod.refl (fun _ => False) W4).drew).trans n5
  have R5 := hid (R4.out.new n45); have B9d := hid (New.blk n45 B9c.out); have B6d := hid (New.blk n45 B6c.out); have B12d := hid (New.blk n45 B12.out); have M5 := hid (M4.out.trans (New.mod n45))
  have S5 := hid (S4.out.new n45)
  clear n5 n45
  have b1 : w5.cell? ⟨w.heap.size, 1, none⟩ = some (.string ip) := B6d.out.cellv 1 rfl
  have bl := B6d.out.lt
  have r4 : w5.cell? ⟨R, 4, none⟩ = some (.slice ah r.heard.length ch) := R5.out.row.cellv 4 rfl
  have rl := R5.out.row.lt
  go_wp2_with fail
  obtain ⟨ah', ch', W9, hrun, hown, hgr⟩ := hear_append (W := w5.drew) (R5.out.new ((Mod.refl _ _).drew)) hmn ip (t / 60000)
  have HOW := hid hown; have HGR := hid hgr
  have hap : ∀ z, (Value.slice ah r.heard.length ch).ownBlock = some z → R < z ∧ z < w.heap.size := fun z hz => by
    have h1 := (World.ownsRow.lt R5.out.heard z hz).1
    cases ah with
    | none => cases hz
    | some y =>
      injection hz with hz
      have h2 := (HC.out w (Mod.refl _ _)).over z (.inr (.inr ⟨y, rfl, hz⟩))
      omega
  have HAPB := hid hap
  have hw5 : w.heap.size < w5.heap.size := bl
  have bb1 : W9.cell? ⟨w.heap.size, 1, none⟩ = some (.string ip) := ((B6d.out.alloc _).of_heap (hgr.block w.heap.size (by simp; omega) (fun z => by have := hap _ z.symm; omega))).cellv 1 rfl
  have RR := hid ((R5.out.row.alloc _).of_heap (hgr.block R (by simp; omega) (fun z => by have := hap _ z.symm; omega)))
  have rr4 : W9.cell? ⟨R, 4, none⟩ = some (.slice ah r.heard.length ch) := RR.out.cellv 4 rfl
  have rrl := RR.out.lt; have rrf := RR.out.frz 4
  have ba1 : ∀ o, (w5.drew.alloc o).cell? ⟨w.heap.size, 1, none⟩ = some (.string ip) := fun o => (B6d.out.alloc o).cellv 1 rfl
  have ra4 : ∀ o, (w5.drew.alloc o).cell? ⟨R, 4, none⟩ = some (.slice ah r.heard.length ch) := fun o => (R5.out.row.alloc o).cellv 4 rfl
  clear hown hgr hap
  have bs1 : ∀ v, (W9.setCell ⟨R, 4, none⟩ v).cell? ⟨w.heap.size, 1, none⟩ = some (.string ip) := fun v => cell_off (by show w.heap.size ≠ R; omega) bb1
  refine wp_region_held_drew (S := (fun w' => w'.cell? ⟨w.heap.size, 1, none⟩ = some (.string ip))) (by kernel_rfl) b1 (fun hHeld => ?_)
  refine tk (v := ?_) 0 ?_ ?_
  rotate_left
  · intro w hSw
    (try dsimp only at hSw)
    first | (go_simp; done) | (go_simp; with_reducible rfl) | with_reducible rfl
  simp only [Act.put, List.setIfInBounds_toArray, List.set_cons_zero, List.set_cons_succ]
  refine tk (v := ?_) 1 ?_ ?_
  rotate_left
  · intro w hSw
    (try dsimp only at hSw)
    first | (go_simp; done) | (go_simp; with_reducible rfl) | with_reducible rfl
  simp only [Act.put, List.setIfInBounds_toArray, List.set_cons_zero, List.set_cons_succ]
  refine tk (v := ?_) 2 ?_ ?_
  rotate_left
  · intro w hSw
    (try dsimp only at hSw)
    first | (go_simp; done) | (go_simp; with_reducible rfl) | with_reducible rfl
  simp only [Act.put, List.setIfInBounds_toArray, List.set_cons_zero, List.set_cons_succ]
  refine tk (v := ?_) 3 ?_ ?_
  rotate_left
  · intro w hSw
    (try dsimp only at hSw)
    first | (go_simp; done) | (go_simp; with_reducible rfl) | with_reducible rfl
  simp only [Act.put, List.setIfInBounds_toArray, List.set_cons_zero, List.set_cons_succ]
  refine tk (v := ?_) 5 ?_ ?_
  rotate_left
  · intro w hSw
    (try dsimp only at hSw)
    first | (go_simp; done) | (go_simp; with_reducible rfl) | with_reducible rfl
  simp only [Act.put, List.setIfInBounds_toArray, List.set_cons_zero, List.set_cons_succ]
  refine tk (v := ?_) 6 ?_ ?_
  rotate_left
  · intro w hSw
    (try dsimp only at hSw)
    first | (go_simp; done) | (go_simp; with_reducible rfl) | with_reducible rfl
  simp only [Act.put, List.setIfInBounds_toArray, List.set_cons_zero, List.set_cons_succ]
  refine tk (v := ?_) 7 ?_ ?_
  rotate_left
  · intro w hSw
    (try dsimp only at hSw)
    first | (go_simp; done) | (go_simp; with_reducible rfl) | with_reducible rfl
  simp only [Act.put, List.setIfInBounds_toArray, List.set_cons_zero, List.set_cons_succ]
  refine tk (v := ?_) 8 ?_ ?_
  rotate_left
  · intro w hSw
    (try dsimp only at hSw)
    first | (go_simp; done) | (go_simp; with_reducible rfl) | with_reducible rfl
  simp only [Act.put, List.setIfInBounds_toArray, List.set_cons_zero, List.set_cons_succ]
  refine tk (v := ?_) 9 ?_ ?_
  rotate_left
  · intro w hSw
    (try dsimp only at hSw)
    first | (go_simp; done) | (go_simp; with_reducible rfl) | with_reducible rfl
  simp only [Act.put, List.setIfInBounds_toArray, List.set_cons_zero, List.set_cons_succ]
  refine wpAnyH_ready (rs := [4, 10]) (by kernel_rfl) (by simp) ?_
  refine AllReadyH.cons (by simp only [List.getElem?_toArray, List.getElem?_cons_succ, List.getElem?_cons_zero]; rfl) (fun K hK => ?_) (AllReadyH.cons (by simp only [List.getElem?_toArray, List.getElem?_cons_succ, List.getElem?_cons_zero]; rfl) (fun K hK => ?_) AllReadyH.nil)
  · go_simp
    refine hK.out _ _ b1 (fun hHeldA => ?_)
    clear hK K
    try simp only [Act.put, List.setIfInBounds_toArray, List.set_cons_zero, List.set_cons_succ]
    refine wpAnyH_ready (rs := [10]) (by kernel_rfl) (by simp) ?_
    refine AllReadyH.cons (by simp only [List.getElem?_toArray, List.getElem?_cons_succ, List.getElem?_cons_zero]; rfl) (fun K hK => ?_) AllReadyH.nil
    go_simp
    refine hK.out _ _ (ba1 _) (fun hHeld10 => ?_)
    clear hK K
    try simp only [Act.put, List.setIfInBounds_toArray, List.set_cons_zero, List.set_cons_succ]
    refine wpAnyH_ready (rs := [11]) (by kernel_rfl) (by simp) ?_
    refine AllReadyH.cons (by simp only [List.getElem?_toArray, List.getElem?_cons_succ, List.getElem?_cons_zero]; rfl) (fun K hK => ?_) AllReadyH.nil
    rw [if_pos (by rfl)]
    refine op_append _ _ _ rfl rfl rfl hrun ?_
    simp only [Act.put, List.setIfInBounds_toArray, List.set_cons_zero, List.set_cons_succ]
    refine hK.out _ _ bb1 (fun hHeld9 => ?_)
    clear hK K hHeld9
    try simp only [Act.put, List.setIfInBounds_toArray, List.set_cons_zero, List.set_cons_succ]
    refine tk (v := ?_) 12 ?_ ?_
    rotate_left
    · intro w hSw
      (try dsimp only at hSw)
      first | (go_simp; done) | (go_simp; with_reducible rfl) | with_reducible rfl
    simp only [Act.put, List.setIfInBounds_toArray, List.set_cons_zero, List.set_cons_succ]
    refine tk (v := ?_) 13 ?_ ?_
    rotate_left
    · intro w hSw
      (try dsimp only at hSw)
      first | (go_simp; done) | (go_simp; with_reducible rfl) | with_reducible rfl
    simp only [Act.put, List.setIfInBounds_toArray, List.set_cons_zero, List.set_cons_succ]
    refine wpAnyH_ready (rs := [14]) (by kernel_rfl) (by simp) ?_
    refine AllReadyH.cons (by simp only [List.getElem?_toArray, List.getElem?_cons_succ, List.getElem?_cons_zero]; rfl) (fun K hK => ?_) AllReadyH.nil
    go_simp
    refine hK.out _ _ (bs1 _) (fun hHeld14 => ?_)
    clear hK K
    try simp only [Act.put, List.setIfInBounds_toArray, List.set_cons_zero, List.set_cons_succ]
    refine wpAnyH_done (by kernel_rfl) ?_ _
    refine name_worldC (p := fun W => Exit.then _ _ _ _ W) (fun W6 hW6 => ?_)
    have HMA : Mod (fun k => k = R ∨ ∃ x, ah = some x ∧ x.block = k) (w5.drew.alloc (.cells #[.string ip, .int .i64 (t / 60000)] 95)) W9 := ⟨HGR.out.os, HGR.out.tape, HGR.out.output, HGR.out.size, fun k hk hn => HGR.out.block k hk (fun z => hn (.inr (by
      cases ah with
      | none => cases z
      | some x => injection z with z; exact ⟨x, rfl, z.symm⟩)))⟩
    have HM5 : Hid (Mod (fun k => k = R ∨ ∃ x, ah = some x ∧ x.block = k) w5 W6) := hid (by
      rw [hW6]
      exact Mod.set (((New.mod ((Mod.refl (fun _ => False) w5).drew.alloc _)).trans HMA)) ⟨R, 4, none⟩ _ (.inl (.inl rfl)))
    have HMR9 : Mod (fun k => k = R) W9 W6 := by rw [hW6]; exact Mod.set (S := fun k => k = R) (Mod.refl _ _) ⟨R, 4, none⟩ _ (.inl rfl)
    have HRA : Hid (∀ k, RcT R aa ah k → R ≤ k ∧ k < w.heap.size) := hid ((HC.out w (Mod.refl _ _)).over)
    have hRl := HRA.out R (.inl rfl)
    have R6 : Hid (RcAt W6 R aa ah' ca ch' (r.hearC t ip)) := hid ⟨by
        rw [hW6]
        exact (RR.out.set 4 _).row (by simp [rcRow, RcV.hearC]), R5.out.all.mod HM5.out (fun x hx z => by
          have h1 := (R5.out.all.blk hx).1
          rcases z with z | ⟨y, hy, z⟩
          · omega
          · exact R5.out.apart hx hy z.symm), by
        have h1 := ownsP_mod HOW.out HMR9 (fun z hz => by have := (World.ownsRow.lt HOW.out z hz).1; omega)
        simpa [RcV.hearC] using h1⟩
    have hfar : ∀ k, w.heap.size ≤ k → ¬ (k = R ∨ ∃ x, ah = some x ∧ x.block = k) := fun k hk z => by
      rcases z with z | ⟨x, hx, z⟩
      · omega
      · have := (HRA.out _ (.inr (.inr ⟨x, hx, rfl⟩))).2; omega
    have l9 := Blk.lt B12d.out
    have z3 : w.heap.size + 2 ≤ w3.heap.size := by have := B9a.out.lt; have := HZ23.out; omega
    have B9e := hid (HM5.out.blk B9d.out (hfar _ (by omega))); have B6e := hid (HM5.out.blk B6d.out (hfar _ (by omega))); have B12e := hid (HM5.out.blk B12d.out (hfar _ (by omega)))
    have S6 := hid (S5.out.far HM5.out (fun x hx => hfar _ (by have := HB3.out x hx; have := M2.out.size; omega)))
    have HFAR := hid hfar
    have m1 : W6.cell? ⟨w3.heap.size, 1, none⟩ = some (.slice a3 m.names.length c3) := B12e.out.cellv 1 rfl
    have ml := B12e.out.lt
    have HQN := hid hqw
    clear hW6 HMA HMR9 hfar b1 bl r4 rl hrun bb1 rr4 rrl rrf ba1 ra4 bs1
    go_wp2_with fail
    clear m1 ml
    go_loopw [15, 92] (fun v i wr => ∃ (k : Nat), i = .int .i64 k ∧ k ≤ m.names.length ∧ OwnT wr W6.heap.size v ((m.names.take k).filter (inR r)) ∧ Mod (fun j => W6.heap.size ≤ j) W6 wr) (fun _ i _ => m.names.length - (intOf i).toNat)
    case atStart => exact ⟨0, rfl, by omega, OwnT.nil _ _, Mod.refl _ _⟩
    case round =>
      obtain ⟨k, rfl, hk, ho, hmr⟩ := hrel
      have HO := hid ho; have HMR := hid hmr
      have NMR : Hid (New W6 wr) := hid ((Mod.refl (fun _ => False) W6).trans' hmr (fun i hi q => by omega))
      by_cases hlt : k < m.names.length
      · obtain ⟨bb, oo, rfl, hbb, hcc⟩ := (S6.out.new NMR.out).get (by omega)
        have g0 := hcc k hlt
        have hsm := S6.out.small m.names[k] (List.getElem_mem _)
        have hft := filter_take (p := inR r) hlt
        obtain ⟨nm, hnm⟩ : ∃ nm, nm = m.names[k] := ⟨_, rfl⟩
        rw [← hnm] at g0 hsm hft
        have HFT := hid hft; have HSM := hid hsm
        have HFI : Hid (∀ W, New W6 W → Calls Tryz.prog 56 #[.pointer (some ⟨R, 0, none⟩), .string nm] W fun e w' => e = .returned (.int .i64 (idxP r.all nm)) ∧ New W w') := hid (fun W n => find_any R aa ah' ca ch' (r.hearC t ip) nm W (R6.out.new n) hfew)
        obtain ⟨ao, co, rfl, hso, hbo⟩ := HO.out.strs
        have hco := hso.cap
        unfold maxLen at hco
        have hfl : ((m.names.take k).filter (inR r)).length ≤ 20 := by
          have h1 := List.length_filter_le (inR r) (m.names.take k)
          rw [List.length_take] at h1
          omega
        obtain ⟨L, hL⟩ : ∃ L, L = (m.names.take k).filter (inR r) := ⟨_, rfl⟩
        rw [← hL] at HO HFT hfl ⊢
        clear ho hmr hft hsm hcc hnm hso hbo hL
        have hz6 := NMR.out.size
        by_cases hin : 0 ≤ idxP r.all nm
        · have hinR : inR r nm = true := decide_eq_true hin
          rw [hinR, if_pos rfl] at HFT
          have e4 : decide (idxP r.all nm ≥ 0) = true := decide_eq_true hin
          clear hinR
          go_wp2_with fail
          refine (HFI.out _ NMR.out).mono ?_
          rintro e w8 ⟨rfl, n8⟩
          have N8 := hid n8
          have hz8 := n8.size
          have HO8 := hid (HO.out.new n8)
          clear n8
          obtain ⟨i1, hj, hy0, hy1, hy2⟩ := info_parts info_str
          go_wp2_with (at_builtin; refine wpList_append_own_at _ rfl _ _ 22 rfl W6.heap.size 9 i1 _ 1 16 Tryz.underlying22 hj hy0 hy1 hy2 rfl (by decide) (.slice ao L.length co) L.length (L.map Value.string) rfl ?ow ⟨w8.heap.size, 0, none⟩ 1 1 [.string nm] rfl rfl ?hn ?h1 ?h63 ?hby ?hba ?_)
          case ow => exact (HO8.out.new ((Mod.refl _ _).alloc _)).row
          case hn =>
            intro j u hj
            rw [add_zero]
            match j, hj with
            | 0, hj => simp at hj; subst hj; exact (Blk.newAt (by simp)).cellv 0 rfl
          case h1 => intro u hu; simp at hu; subst hu; rfl
          case h63 => unfold maxLen; omega
          case hby => omega
          case hba => simp; omega
          intro o3 w7 r7 g7 _ _
          have O7 : Hid (OwnT w7 W6.heap.size o3 (L ++ [nm])) := hid (ownT_of HO8.out.small HSM.out r7)
          have M7 : Hid (Mod (fun k => W6.heap.size ≤ k) w8 w7) := hid (mod_grownT (HO8.out.new ((Mod.refl _ _).alloc _)) (Nat.le_refl _) ((Mod.refl _ _).alloc _) g7)
          clear r7 g7
          go_wp2
          exact ⟨⟨k + 1, by simp, by omega, by rw [HFT.out]; exact O7.out, (HMR.out.trans (New.mod N8.out)).trans M7.out⟩, by simp [intOf]; omega⟩
        · have hinR : inR r nm = false := decide_eq_false hin
          rw [hinR] at HFT
          simp only [Bool.false_eq_true, if_false, List.append_nil] at HFT
          have e4 : decide (idxP r.all nm ≥ 0) = false := decide_eq_false hin
          clear hinR
          go_wp2_with fail
          refine (HFI.out _ NMR.out).mono ?_
          rintro e w8 ⟨rfl, n8⟩
          have N8 := hid n8
          have HO8 := hid (HO.out.new n8)
          clear n8
          go_wp2_with fail
          exact ⟨⟨k + 1, by simp, by omega, by rw [HFT.out]; exact HO8.out, HMR.out.trans (New.mod N8.out)⟩, by simp [intOf]; omega⟩
      · have hkl : m.names.take k = m.names := List.take_of_length_le (by omega)
        rw [hkl] at HO
        obtain ⟨ao, co, rfl, hso, hbo⟩ := HO.out.strs
        have HSO := hid hso
        have T6 := hid (New.blk NMR.out B6e.out)
        have T9 := hid (New.blk NMR.out B9e.out)
        have T12 := hid (New.blk NMR.out B12e.out)
        have p0 : wr.cell? ⟨w3.heap.size, 0, none⟩ = some (.int .i64 m.port) := T12.out.cellv 0 rfl
        have pl := T12.out.lt
        have u0 := T6.out.cellv 0 rfl; have u1 := T6.out.cellv 1 rfl; have u2 := T6.out.cellv 2 rfl; have ul := T6.out.lt; have uf := T6.out.frz 2
        clear ho hmr hso hbo hkl
        go_wp2_with fail
        refine name_worldC (p := fun W => Code.wp _ _ _ _ W) (fun WX hWX => ?_)
        have hmX : Mod (fun k => k = w.heap.size) wr WX := by
          rw [hWX]
          exact Mod.set (S := fun k => k = w.heap.size) (Mod.refl _ _) ⟨w.heap.size, 2, none⟩ _ (.inl rfl)
        have RX6 : Hid (Blk WX w.heap.size #[.int .i64 fam, .string ip, .int .i64 m.port] 40) := hid (by rw [hWX]; exact (T6.out.set 2 _).row (by simp))
        have RX9 := hid (hmX.blk T9.out (by omega))
        have HMX := hid hmX
        clear hWX hmX u0 u1 u2 ul uf p0 pl
        have u0 := RX6.out.cellv 0 rfl; have u1 := RX6.out.cellv 1 rfl; have u2 := RX6.out.cellv 2 rfl
        have v0 := RX9.out.cellv 0 rfl; have v1 := RX9.out.cellv 1 rfl; have v2 := RX9.out.cellv 2 rfl; have vl := RX9.out.lt
        have x0 := RX9.out.frz 0; have x1 := RX9.out.frz 1; have x2 := RX9.out.frz 2
        have sx : ∀ (i : Nat) (v a b d : Value), WX.cell? ⟨w.heap.size, i, none⟩ = some v → (((WX.drew.setCell ⟨w.heap.size + 1, 0, none⟩ a).setCell ⟨w.heap.size + 1, 1, none⟩ b).setCell ⟨w.heap.size + 1, 2, none⟩ d).cell? ⟨w.heap.size, i, none⟩ = some v := fun i v a b d hcv =>
          cell_offH (by show w.heap.size ≠ w.heap.size + 1; omega) (cell_offH (by show w.heap.size ≠ w.heap.size + 1; omega) (cell_offH (by show w.heap.size ≠ w.heap.size + 1; omega) hcv))
        refine wp_region_held_drew (S := (fun w' => w'.cell? ⟨w.heap.size, 0, none⟩ = some (.int .i64 fam) ∧ w'.cell? ⟨w.heap.size, 1, none⟩ = some (.string ip) ∧ w'.cell? ⟨w.heap.size, 2, none⟩ = some (.int .i64 m.port))) (by kernel_rfl) ⟨u0, u1, u2⟩ (fun hHeld => ?_)
        refine tk (v := ?_) 0 ?_ ?_
        rotate_left
        · intro w hSw
          (try dsimp only at hSw)
          first | (go_simp; done) | (go_simp; with_reducible rfl) | with_reducible rfl
        simp only [Act.put, List.setIfInBounds_toArray, List.set_cons_zero, List.set_cons_succ]
        refine tk (v := ?_) 1 ?_ ?_
        rotate_left
        · intro w hSw
          (try dsimp only at hSw)
          first | (go_simp; done) | (go_simp; with_reducible rfl) | with_reducible rfl
        simp only [Act.put, List.setIfInBounds_toArray, List.set_cons_zero, List.set_cons_succ]
        refine tk (v := ?_) 2 ?_ ?_
        rotate_left
        · intro w hSw
          (try dsimp only at hSw)
          first | (go_simp; done) | (go_simp; with_reducible rfl) | with_reducible rfl
        simp only [Act.put, List.setIfInBounds_toArray, List.set_cons_zero, List.set_cons_succ]
        refine wpAnyH_ready (rs := [3]) (by kernel_rfl) (by simp) ?_
        refine AllReadyH.cons (by simp only [List.getElem?_toArray, List.getElem?_cons_succ, List.getElem?_cons_zero]; rfl) (fun K hK => ?_) AllReadyH.nil
        go_simp
        refine hK.out _ _ ⟨sx 0 _ _ _ _ u0, sx 1 _ _ _ _ u1, sx 2 _ _ _ _ u2⟩ (fun hHeld3 => ?_)
        clear hK K
        try simp only [Act.put, List.setIfInBounds_toArray, List.set_cons_zero, List.set_cons_succ]
        refine tk (v := ?_) 4 ?_ ?_
        rotate_left
        · intro w hSw
          (try dsimp only at hSw)
          first | (go_simp; done) | (go_simp; with_reducible rfl) | with_reducible rfl
        simp only [Act.put, List.setIfInBounds_toArray, List.set_cons_zero, List.set_cons_succ]
        refine wpAnyH_done (by kernel_rfl) ?_ _
        go_wp2_with fail
        refine name_worldC (p := fun W => bodyPost _ _ _ _ _ W) (fun WY hWY => ?_)
        have G9 : Blk WY (w.heap.size + 1) #[.int .i64 fam, .string ip, .int .i64 m.port] 40 := by
          rw [hWY]
          exact (((RX9.out.set 0 _).set 1 _).set 2 _).row (by simp)
        have hmY : Mod (fun k => k = w.heap.size + 1) WX WY := by
          rw [hWY]
          repeat (with_reducible refine Mod.drew ?_)
          refine Mod.set (S := fun k => k = w.heap.size + 1) ?_ ⟨w.heap.size + 1, 2, none⟩ _ (.inl rfl)
          refine Mod.set (S := fun k => k = w.heap.size + 1) ?_ ⟨w.heap.size + 1, 1, none⟩ _ (.inl rfl)
          exact Mod.set (S := fun k => k = w.heap.size + 1) (Mod.refl _ _) ⟨w.heap.size + 1, 0, none⟩ _ (.inl rfl)
        have hmRY : Mod (fun k => k = w.heap.size ∨ k = w.heap.size + 1) wr WY := (HMX.out.mono (S' := fun k => k = w.heap.size ∨ k = w.heap.size + 1) (fun i _ q => .inl q)).trans' hmY (fun i _ q => .inr q)
        have g0 := G9.cellv 0 rfl; have g1 := G9.cellv 1 rfl; have g2 := G9.cellv 2 rfl
        have hz56 := HM5.out.size
        have l55 := B9d.out.lt
        refine bodyPost_ret (v := .tuple #[.slice ao (m.names.filter (inR r)).length co, .agg #[.int .i64 fam, .string ip, .int .i64 m.port], .int .i64 0]) ?_ rfl ⟨ah', ch', ao, co, rfl, ?_, ?_, ?_⟩
        · simp [results, Tryz.results23, go_sem, g0, g1, g2]
        · have hq := (HO.out.mod hmRY (fun j hj _ q => by omega)).strs
          obtain ⟨a9, c9, e9, hs9, -⟩ := hq
          injection e9 with e91 e92 e93
          subst e91 e93
          exact hs9
        · refine (R6.out.new NMR.out).mod hmRY (fun k hk q => ?_)
          have h1 : R ≤ k := (R6.out.over k hk).1
          rcases hk with hk | ⟨x, hx, hk⟩ | ⟨x, hx, hk⟩
          · omega
          · have := (HRA.out k (.inr (.inl ⟨x, hx, hk⟩))).2; omega
          · have hB := blk_neP (New.blk NMR.out (show Blk W6 x.block _ _ from (R6.out.hears.blk hx).2.choose_spec)) T9.out (by decide)
            have hC := blk_neP (New.blk NMR.out (show Blk W6 x.block _ _ from (R6.out.hears.blk hx).2.choose_spec)) T6.out (by decide)
            omega
        · exact (((M5.out.mono (S' := fun k => k = R ∨ ∃ x, ah = some x ∧ x.block = k) (fun _ _ q => .inl q)).trans HM5.out).trans (New.mod NMR.out)).trans' hmRY (fun i hi q => by omega)
  · go_simp
    refine hK.out _ _ (ba1 _) (fun hHeldA => ?_)
    clear hK K
    try simp only [Act.put, List.setIfInBounds_toArray, List.set_cons_zero, List.set_cons_succ]
    refine wpAnyH_ready (rs := [4]) (by kernel_rfl) (by simp) ?_
    refine AllReadyH.cons (by simp only [List.getElem?_toArray, List.getElem?_cons_succ, List.getElem?_cons_zero]; rfl) (fun K hK => ?_) AllReadyH.nil
    go_simp
    refine hK.out _ _ (ba1 _) (fun hHeld4 => ?_)
    clear hK K
    try simp only [Act.put, List.setIfInBounds_toArray, List.set_cons_zero, List.set_cons_succ]
    refine wpAnyH_ready (rs := [11]) (by kernel_rfl) (by simp) ?_
    refine AllReadyH.cons (by simp only [List.getElem?_toArray, List.getElem?_cons_succ, List.getElem?_cons_zero]; rfl) (fun K hK => ?_) AllReadyH.nil
    rw [if_pos (by rfl)]
    refine op_append _ _ _ rfl rfl rfl hrun ?_
    simp only [Act.put, List.setIfInBounds_toArray, List.set_cons_zero, List.set_cons_succ]
    refine hK.out _ _ bb1 (fun hHeld9 => ?_)
    clear hK K hHeld9
    try simp only [Act.put, List.setIfInBounds_toArray, List.set_cons_zero, List.set_cons_succ]
    refine tk (v := ?_) 12 ?_ ?_
    rotate_left
    · intro w hSw
      (try dsimp only at hSw)
      first | (go_simp; done) | (go_simp; with_reducible rfl) | with_reducible rfl
    simp only [Act.put, List.setIfInBounds_toArray, List.set_cons_zero, List.set_cons_succ]
    refine tk (v := ?_) 13 ?_ ?_
    rotate_left
    · intro w hSw
      (try dsimp only at hSw)
      first | (go_simp; done) | (go_simp; with_reducible rfl) | with_reducible rfl
    simp only [Act.put, List.setIfInBounds_toArray, List.set_cons_zero, List.set_cons_succ]
    refine wpAnyH_ready (rs := [14]) (by kernel_rfl) (by simp) ?_
    refine AllReadyH.cons (by simp only [List.getElem?_toArray, List.getElem?_cons_succ, List.getElem?_cons_zero]; rfl) (fun K hK => ?_) AllReadyH.nil
    go_simp
    refine hK.out _ _ (bs1 _) (fun hHeld14 => ?_)
    clear hK K
    try simp only [Act.put, List.setIfInBounds_toArray, List.set_cons_zero, List.set_cons_succ]
    refine wpAnyH_done (by kernel_rfl) ?_ _
    refine name_worldC (p := fun W => Exit.then _ _ _ _ W) (fun W6 hW6 => ?_)
    have HMA : Mod (fun k => k = R ∨ ∃ x, ah = some x ∧ x.block = k) (w5.drew.alloc (.cells #[.string ip, .int .i64 (t / 60000)] 95)) W9 := ⟨HGR.out.os, HGR.out.tape, HGR.out.output, HGR.out.size, fun k hk hn => HGR.out.block k hk (fun z => hn (.inr (by
      cases ah with
      | none => cases z
      | some x => injection z with z; exact ⟨x, rfl, z.symm⟩)))⟩
    have HM5 : Hid (Mod (fun k => k = R ∨ ∃ x, ah = some x ∧ x.block = k) w5 W6) := hid (by
      rw [hW6]
      exact Mod.set (((New.mod ((Mod.refl (fun _ => False) w5).drew.alloc _)).trans HMA)) ⟨R, 4, none⟩ _ (.inl (.inl rfl)))
    have HMR9 : Mod (fun k => k = R) W9 W6 := by rw [hW6]; exact Mod.set (S := fun k => k = R) (Mod.refl _ _) ⟨R, 4, none⟩ _ (.inl rfl)
    have HRA : Hid (∀ k, RcT R aa ah k → R ≤ k ∧ k < w.heap.size) := hid ((HC.out w (Mod.refl _ _)).over)
    have hRl := HRA.out R (.inl rfl)
    have R6 : Hid (RcAt W6 R aa ah' ca ch' (r.hearC t ip)) := hid ⟨by
        rw [hW6]
        exact (RR.out.set 4 _).row (by simp [rcRow, RcV.hearC]), R5.out.all.mod HM5.out (fun x hx z => by
          have h1 := (R5.out.all.blk hx).1
          rcases z with z | ⟨y, hy, z⟩
          · omega
          · exact R5.out.apart hx hy z.symm), by
        have h1 := ownsP_mod HOW.out HMR9 (fun z hz => by have := (World.ownsRow.lt HOW.out z hz).1; omega)
        simpa [RcV.hearC] using h1⟩
    have hfar : ∀ k, w.heap.size ≤ k → ¬ (k = R ∨ ∃ x, ah = some x ∧ x.block = k) := fun k hk z => by
      rcases z with z | ⟨x, hx, z⟩
      · omega
      · have := (HRA.out _ (.inr (.inr ⟨x, hx, rfl⟩))).2; omega
    have l9 := Blk.lt B12d.out
    have z3 : w.heap.size + 2 ≤ w3.heap.size := by have := B9a.out.lt; have := HZ23.out; omega
    have B9e := hid (HM5.out.blk B9d.out (hfar _ (by omega))); have B6e := hid (HM5.out.blk B6d.out (hfar _ (by omega))); have B12e := hid (HM5.out.blk B12d.out (hfar _ (by omega)))
    have S6 := hid (S5.out.far HM5.out (fun x hx => hfar _ (by have := HB3.out x hx; have := M2.out.size; omega)))
    have HFAR := hid hfar
    have m1 : W6.cell? ⟨w3.heap.size, 1, none⟩ = some (.slice a3 m.names.length c3) := B12e.out.cellv 1 rfl
    have ml := B12e.out.lt
    have HQN := hid hqw
    clear hW6 HMA HMR9 hfar b1 bl r4 rl hrun bb1 rr4 rrl rrf ba1 ra4 bs1
    go_wp2_with fail
    clear m1 ml
    go_loopw [15, 92] (fun v i wr => ∃ (k : Nat), i = .int .i64 k ∧ k ≤ m.names.length ∧ OwnT wr W6.heap.size v ((m.names.take k).filter (inR r)) ∧ Mod (fun j => W6.heap.size ≤ j) W6 wr) (fun _ i _ => m.names.length - (intOf i).toNat)
    case atStart => exact ⟨0, rfl, by omega, OwnT.nil _ _, Mod.refl _ _⟩
    case round =>
      obtain ⟨k, rfl, hk, ho, hmr⟩ := hrel
      have HO := hid ho; have HMR := hid hmr
      have NMR : Hid (New W6 wr) := hid ((Mod.refl (fun _ => False) W6).trans' hmr (fun i hi q => by omega))
      by_cases hlt : k < m.names.length
      · obtain ⟨bb, oo, rfl, hbb, hcc⟩ := (S6.out.new NMR.out).get (by omega)
        have g0 := hcc k hlt
        have hsm := S6.out.small m.names[k] (List.getElem_mem _)
        have hft := filter_take (p := inR r) hlt
        obtain ⟨nm, hnm⟩ : ∃ nm, nm = m.names[k] := ⟨_, rfl⟩
        rw [← hnm] at g0 hsm hft
        have HFT := hid hft; have HSM := hid hsm
        have HFI : Hid (∀ W, New W6 W → Calls Tryz.prog 56 #[.pointer (some ⟨R, 0, none⟩), .string nm] W fun e w' => e = .returned (.int .i64 (idxP r.all nm)) ∧ New W w') := hid (fun W n => find_any R aa ah' ca ch' (r.hearC t ip) nm W (R6.out.new n) hfew)
        obtain ⟨ao, co, rfl, hso, hbo⟩ := HO.out.strs
        have hco := hso.cap
        unfold maxLen at hco
        have hfl : ((m.names.take k).filter (inR r)).length ≤ 20 := by
          have h1 := List.length_filter_le (inR r) (m.names.take k)
          rw [List.length_take] at h1
          omega
        obtain ⟨L, hL⟩ : ∃ L, L = (m.names.take k).filter (inR r) := ⟨_, rfl⟩
        rw [← hL] at HO HFT hfl ⊢
        clear ho hmr hft hsm hcc hnm hso hbo hL
        have hz6 := NMR.out.size
        by_cases hin : 0 ≤ idxP r.all nm
        · have hinR : inR r nm = true := decide_eq_true hin
          rw [hinR, if_pos rfl] at HFT
          have e4 : decide (idxP r.all nm ≥ 0) = true := decide_eq_true hin
          clear hinR
          go_wp2_with fail
          refine (HFI.out _ NMR.out).mono ?_
          rintro e w8 ⟨rfl, n8⟩
          have N8 := hid n8
          have hz8 := n8.size
          have HO8 := hid (HO.out.new n8)
          clear n8
          obtain ⟨i1, hj, hy0, hy1, hy2⟩ := info_parts info_str
          go_wp2_with (at_builtin; refine wpList_append_own_at _ rfl _ _ 22 rfl W6.heap.size 9 i1 _ 1 16 Tryz.underlying22 hj hy0 hy1 hy2 rfl (by decide) (.slice ao L.length co) L.length (L.map Value.string) rfl ?ow ⟨w8.heap.size, 0, none⟩ 1 1 [.string nm] rfl rfl ?hn ?h1 ?h63 ?hby ?hba ?_)
          case ow => exact (HO8.out.new ((Mod.refl _ _).alloc _)).row
          case hn =>
            intro j u hj
            rw [add_zero]
            match j, hj with
            | 0, hj => simp at hj; subst hj; exact (Blk.newAt (by simp)).cellv 0 rfl
          case h1 => intro u hu; simp at hu; subst hu; rfl
          case h63 => unfold maxLen; omega
          case hby => omega
          case hba => simp; omega
          intro o3 w7 r7 g7 _ _
          have O7 : Hid (OwnT w7 W6.heap.size o3 (L ++ [nm])) := hid (ownT_of HO8.out.small HSM.out r7)
          have M7 : Hid (Mod (fun k => W6.heap.size ≤ k) w8 w7) := hid (mod_grownT (HO8.out.new ((Mod.refl _ _).alloc _)) (Nat.le_refl _) ((Mod.refl _ _).alloc _) g7)
          clear r7 g7
          go_wp2
          exact ⟨⟨k + 1, by simp, by omega, by rw [HFT.out]; exact O7.out, (HMR.out.trans (New.mod N8.out)).trans M7.out⟩, by simp [intOf]; omega⟩
        · have hinR : inR r nm = false := decide_eq_false hin
          rw [hinR] at HFT
          simp only [Bool.false_eq_true, if_false, List.append_nil] at HFT
          have e4 : decide (idxP r.all nm ≥ 0) = false := decide_eq_false hin
          clear hinR
          go_wp2_with fail
          refine (HFI.out _ NMR.out).mono ?_
          rintro e w8 ⟨rfl, n8⟩
          have N8 := hid n8
          have HO8 := hid (HO.out.new n8)
          clear n8
          go_wp2_with fail
          exact ⟨⟨k + 1, by simp, by omega, by rw [HFT.out]; exact HO8.out, HMR.out.trans (New.mod N8.out)⟩, by simp [intOf]; omega⟩
      · have hkl : m.names.take k = m.names := List.take_of_length_le (by omega)
        rw [hkl] at HO
        obtain ⟨ao, co, rfl, hso, hbo⟩ := HO.out.strs
        have HSO := hid hso
        have T6 := hid (New.blk NMR.out B6e.out)
        have T9 := hid (New.blk NMR.out B9e.out)
        have T12 := hid (New.blk NMR.out B12e.out)
        have p0 : wr.cell? ⟨w3.heap.size, 0, none⟩ = some (.int .i64 m.port) := T12.out.cellv 0 rfl
        have pl := T12.out.lt
        have u0 := T6.out.cellv 0 rfl; have u1 := T6.out.cellv 1 rfl; have u2 := T6.out.cellv 2 rfl; have ul := T6.out.lt; have uf := T6.out.frz 2
        clear ho hmr hso hbo hkl
        go_wp2_with fail
        refine name_worldC (p := fun W => Code.wp _ _ _ _ W) (fun WX hWX => ?_)
        have hmX : Mod (fun k => k = w.heap.size) wr WX := by
          rw [hWX]
          exact Mod.set (S := fun k => k = w.heap.size) (Mod.refl _ _) ⟨w.heap.size, 2, none⟩ _ (.inl rfl)
        have RX6 : Hid (Blk WX w.heap.size #[.int .i64 fam, .string ip, .int .i64 m.port] 40) := hid (by rw [hWX]; exact (T6.out.set 2 _).row (by simp))
        have RX9 := hid (hmX.blk T9.out (by omega))
        have HMX := hid hmX
        clear hWX hmX u0 u1 u2 ul uf p0 pl
        have u0 := RX6.out.cellv 0 rfl; have u1 := RX6.out.cellv 1 rfl; have u2 := RX6.out.cellv 2 rfl
        have v0 := RX9.out.cellv 0 rfl; have v1 := RX9.out.cellv 1 rfl; have v2 := RX9.out.cellv 2 rfl; have vl := RX9.out.lt
        have x0 := RX9.out.frz 0; have x1 := RX9.out.frz 1; have x2 := RX9.out.frz 2
        have sx : ∀ (i : Nat) (v a b d : Value), WX.cell? ⟨w.heap.size, i, none⟩ = some v → (((WX.drew.setCell ⟨w.heap.size + 1, 0, none⟩ a).setCell ⟨w.heap.size + 1, 1, none⟩ b).setCell ⟨w.heap.size + 1, 2, none⟩ d).cell? ⟨w.heap.size, i, none⟩ = some v := fun i v a b d hcv =>
          cell_offH (by show w.heap.size ≠ w.heap.size + 1; omega) (cell_offH (by show w.heap.size ≠ w.heap.size + 1; omega) (cell_offH (by show w.heap.size ≠ w.heap.size + 1; omega) hcv))
        refine wp_region_held_drew (S := (fun w' => w'.cell? ⟨w.heap.size, 0, none⟩ = some (.int .i64 fam) ∧ w'.cell? ⟨w.heap.size, 1, none⟩ = some (.string ip) ∧ w'.cell? ⟨w.heap.size, 2, none⟩ = some (.int .i64 m.port))) (by kernel_rfl) ⟨u0, u1, u2⟩ (fun hHeld => ?_)
        refine tk (v := ?_) 0 ?_ ?_
        rotate_left
        · intro w hSw
          (try dsimp only at hSw)
          first | (go_simp; done) | (go_simp; with_reducible rfl) | with_reducible rfl
        simp only [Act.put, List.setIfInBounds_toArray, List.set_cons_zero, List.set_cons_succ]
        refine tk (v := ?_) 1 ?_ ?_
        rotate_left
        · intro w hSw
          (try dsimp only at hSw)
          first | (go_simp; done) | (go_simp; with_reducible rfl) | with_reducible rfl
        simp only [Act.put, List.setIfInBounds_toArray, List.set_cons_zero, List.set_cons_succ]
        refine tk (v := ?_) 2 ?_ ?_
        rotate_left
        · intro w hSw
          (try dsimp only at hSw)
          first | (go_simp; done) | (go_simp; with_reducible rfl) | with_reducible rfl
        simp only [Act.put, List.setIfInBounds_toArray, List.set_cons_zero, List.set_cons_succ]
        refine wpAnyH_ready (rs := [3]) (by kernel_rfl) (by simp) ?_
        refine AllReadyH.cons (by simp only [List.getElem?_toArray, List.getElem?_cons_succ, List.getElem?_cons_zero]; rfl) (fun K hK => ?_) AllReadyH.nil
        go_simp
        refine hK.out _ _ ⟨sx 0 _ _ _ _ u0, sx 1 _ _ _ _ u1, sx 2 _ _ _ _ u2⟩ (fun hHeld3 => ?_)
        clear hK K
        try simp only [Act.put, List.setIfInBounds_toArray, List.set_cons_zero, List.set_cons_succ]
        refine tk (v := ?_) 4 ?_ ?_
        rotate_left
        · intro w hSw
          (try dsimp only at hSw)
          first | (go_simp; done) | (go_simp; with_reducible rfl) | with_reducible rfl
        simp only [Act.put, List.setIfInBounds_toArray, List.set_cons_zero, List.set_cons_succ]
        refine wpAnyH_done (by kernel_rfl) ?_ _
        go_wp2_with fail
        refine name_worldC (p := fun W => bodyPost _ _ _ _ _ W) (fun WY hWY => ?_)
        have G9 : Blk WY (w.heap.size + 1) #[.int .i64 fam, .string ip, .int .i64 m.port] 40 := by
          rw [hWY]
          exact (((RX9.out.set 0 _).set 1 _).set 2 _).row (by simp)
        have hmY : Mod (fun k => k = w.heap.size + 1) WX WY := by
          rw [hWY]
          repeat (with_reducible refine Mod.drew ?_)
          refine Mod.set (S := fun k => k = w.heap.size + 1) ?_ ⟨w.heap.size + 1, 2, none⟩ _ (.inl rfl)
          refine Mod.set (S := fun k => k = w.heap.size + 1) ?_ ⟨w.heap.size + 1, 1, none⟩ _ (.inl rfl)
          exact Mod.set (S := fun k => k = w.heap.size + 1) (Mod.refl _ _) ⟨w.heap.size + 1, 0, none⟩ _ (.inl rfl)
        have hmRY : Mod (fun k => k = w.heap.size ∨ k = w.heap.size + 1) wr WY := (HMX.out.mono (S' := fun k => k = w.heap.size ∨ k = w.heap.size + 1) (fun i _ q => .inl q)).trans' hmY (fun i _ q => .inr q)
        have g0 := G9.cellv 0 rfl; have g1 := G9.cellv 1 rfl; have g2 := G9.cellv 2 rfl
        have hz56 := HM5.out.size
        have l55 := B9d.out.lt
        refine bodyPost_ret (v := .tuple #[.slice ao (m.names.filter (inR r)).length co, .agg #[.int .i64 fam, .string ip, .int .i64 m.port], .int .i64 0]) ?_ rfl ⟨ah', ch', ao, co, rfl, ?_, ?_, ?_⟩
        · simp [results, Tryz.results23, go_sem, g0, g1, g2]
        · have hq := (HO.out.mod hmRY (fun j hj _ q => by omega)).strs
          obtain ⟨a9, c9, e9, hs9, -⟩ := hq
          injection e9 with e91 e92 e93
          subst e91 e93
          exact hs9
        · refine (R6.out.new NMR.out).mod hmRY (fun k hk q => ?_)
          have h1 : R ≤ k := (R6.out.over k hk).1
          rcases hk with hk | ⟨x, hx, hk⟩ | ⟨x, hx, hk⟩
          · omega
          · have := (HRA.out k (.inr (.inl ⟨x, hx, hk⟩))).2; omega
          · have hB := blk_neP (New.blk NMR.out (show Blk W6 x.block _ _ from (R6.out.hears.blk hx).2.choose_spec)) T9.out (by decide)
            have hC := blk_neP (New.blk NMR.out (show Blk W6 x.block _ _ from (R6.out.hears.blk hx).2.choose_spec)) T6.out (by decide)
            omega
        · exact (((M5.out.mono (S' := fun k => k = R ∨ ∃ x, ah = some x ∧ x.block = k) (fun _ _ q => .inl q)).trans HM5.out).trans (New.mod NMR.out)).trans' hmRY (fun i hi q => by omega)
end Go.Proofs.YtnflhjagmngimaaGreatDoor
