/-
  Several texts in one, in their build order. Two magnets put together (the reference: Join): the keys and the web seeds, each once. Conditions as told.
-/
import Derived.Test.YtbgmkplpolgebaaGreatDoorM46
namespace Go.Proofs.YtbgmkplpolgebaaGreatDoor
set_option linter.unusedSimpArgs false
set_option linter.unusedVariables false
open Go.RowKit Go.Shelf

noncomputable def jcodeS : Code := match Tryz.f14.body with
  | some (.seq _ (.seq _ (.seq _ (.seq _ c)))) => c
  | _ => .skip
/-- What the region that makes the two lists wants of a world. -/
structure JrS (w0 : World) (a b : MgV) (p q : MgP) (W : World) : Prop where
  lo : w0.heap.size + 3 ≤ W.heap.size
  bA : Blk W w0.heap.size (magRow a p) 27
  bB : Blk W (w0.heap.size + 1) (magRow b q) 27
  bM : Blk W (w0.heap.size + 1 + 1) zeroMg 27
  new : New w0 W
theorem JrS.of {w0 W : World} {a b : MgV} {p q : MgP} (hM : Blk W (w0.heap.size + 1 + 1) zeroMg 27) (hA : Blk W w0.heap.size (magRow a p) 27) (hB : Blk W (w0.heap.size + 1) (magRow b q) 27) (hn : New w0 W) : JrS w0 a b p q W :=
  ⟨by have := hM.lt; omega, hA, hB, hM, hn⟩
theorem JrS.next {w0 W W' : World} {a b : MgV} {p q : MgP} (h : JrS w0 a b p q W) (n : New W W') : JrS w0 a b p q W' := ⟨Nat.le_trans h.lo n.size, New.blk n h.bA, New.blk n h.bB, New.blk n h.bM, h.new.trans n⟩
theorem JrS.drew {w0 W : World} {a b : MgV} {p q : MgP} (h : JrS w0 a b p q W) : JrS w0 a b p q W.drew := h.next (Mod.refl _ _).drew
theorem JrS.held {w0 W : World} {a b : MgV} {ta pa sa oa : Option Addr} {tc pc sc oc : Nat} {tb pb sb ob : Option Addr} {td pd sd od : Nat} (h : JrS w0 a b ⟨ta, tc, pa, pc, sa, sc, oa, oc⟩ ⟨tb, td, pb, pd, sb, sd, ob, od⟩ W) :
    W.cell? ⟨w0.heap.size, 0, none⟩ = some (.string a.old) ∧ W.cell? ⟨w0.heap.size, 1, none⟩ = some (.string a.new) ∧ W.cell? ⟨w0.heap.size, 2, none⟩ = some (.string a.name) ∧ W.cell? ⟨w0.heap.size, 3, none⟩ = some (.slice ta a.tr.length tc) ∧ W.cell? ⟨w0.heap.size + 1, 3, none⟩ = some (.slice tb b.tr.length td) ∧ W.cell? ⟨w0.heap.size, 5, none⟩ = some (.slice sa a.ws.length sc) ∧ W.cell? ⟨w0.heap.size + 1, 5, none⟩ = some (.slice sb b.ws.length sd) :=
  ⟨h.bA.cellv 0 rfl, h.bA.cellv 1 rfl, h.bA.cellv 2 rfl, h.bA.cellv 3 rfl, h.bB.cellv 3 rfl, h.bA.cellv 5 rfl, h.bB.cellv 5 rfl⟩
theorem JrS.put {w0 W W' : World} {a b : MgV} {p q : MgP} {O : Nat} (h : JrS w0 a b p q W) (hO : w0.heap.size + 3 ≤ O) (m : Mod (fun j => j = O) W W') : JrS w0 a b p q W' :=
  ⟨Nat.le_trans h.lo m.size, m.blk h.bA (by omega), m.blk h.bB (by omega), m.blk h.bM (by omega), h.new.trans' m (fun j q1 q2 => by omega)⟩
theorem JrS.jt {w0 W : World} {a b : MgV} {p q : MgP} {O : Nat} {o : Array Value} (h : JrS w0 a b p q W) (hO : w0.heap.size + 3 ≤ O) (hb : Blk W O o 27) : JT w0 W a b p q O o := ⟨h.bA, h.bB, h.bM, hb, hO, h.new⟩
theorem put1 {W W' : World} {O : Nat} (m : Mod (fun j => j = O) W W') (i : Nat) (v : Value) : Mod (fun j => j = O) W (W'.setCell ⟨O, i, none⟩ v) := m.set ⟨O, i, none⟩ v (.inl rfl)
theorem put7 (W : World) (O : Nat) (v0 v1 v2 v3 v4 v5 v6 : Value) : Mod (fun j => j = O) W (((((((W.setCell ⟨O, 0, none⟩ v0).setCell ⟨O, 1, none⟩ v1).setCell ⟨O, 2, none⟩ v2).setCell ⟨O, 3, none⟩ v3).setCell ⟨O, 4, none⟩ v4).setCell ⟨O, 5, none⟩ v5).setCell ⟨O, 6, none⟩ v6) := by
  have m0 := put1 (O := O) (Mod.refl (fun j => j = O) W) 0 v0
  have m1 := put1 m0 1 v1
  have m2 := put1 m1 2 v2
  have m3 := put1 m2 3 v3
  have m4 := put1 m3 4 v4
  have m5 := put1 m4 5 v5
  exact put1 m5 6 v6
theorem blk7 {W : World} {O : Nat} {t : TypeId} {z0 z1 z2 z3 z4 z5 z6 : Value} (v0 v1 v2 v3 v4 v5 v6 : Value) (h : Blk W O #[z0, z1, z2, z3, z4, z5, z6] t) : Blk (((((((W.setCell ⟨O, 0, none⟩ v0).setCell ⟨O, 1, none⟩ v1).setCell ⟨O, 2, none⟩ v2).setCell ⟨O, 3, none⟩ v3).setCell ⟨O, 4, none⟩ v4).setCell ⟨O, 5, none⟩ v5).setCell ⟨O, 6, none⟩ v6) O #[v0, v1, v2, v3, v4, v5, v6] t := by
  have m0 := (h.set 0 v0).row (cs' := #[v0, z1, z2, z3, z4, z5, z6]) rfl
  have m1 := (m0.set 1 v1).row (cs' := #[v0, v1, z2, z3, z4, z5, z6]) rfl
  have m2 := (m1.set 2 v2).row (cs' := #[v0, v1, v2, z3, z4, z5, z6]) rfl
  have m3 := (m2.set 3 v3).row (cs' := #[v0, v1, v2, v3, z4, z5, z6]) rfl
  have m4 := (m3.set 4 v4).row (cs' := #[v0, v1, v2, v3, v4, z5, z6]) rfl
  have m5 := (m4.set 5 v5).row (cs' := #[v0, v1, v2, v3, v4, v5, z6]) rfl
  exact (m5.set 6 v6).row rfl
set_option maxRecDepth 100000 in
set_option maxHeartbeats 16000000 in
theorem jtailS (a b : MgV) (p q : MgP) (w w3 : World) (X : Except Int MgV) (J : MgV) (h : MagAt w a p) (k : MagAt w b q) (hp : Tidy p) (hq : Tidy q) (hoka : VOk a) (hokb : VOk b) (hJ : J = joinV a b)
    (hX : X = if 10 < J.tr.length ∨ 10 < J.ws.length ∨ 20 < J.pe.length then .error 4 else .ok J)
    (hA3 : Blk w3 w.heap.size (magRow a p) 27) (hB3 : Blk w3 (w.heap.size + 1) (magRow b q) 27) (hM3 : Blk w3 (w.heap.size + 1 + 1) zeroMg 27) (hN3 : New w w3) (x0 x1 u7 u8 u9 u10 u11 u12 u13 u14 u15 u16 u17 u18 u19 u20 u21 u22 u23 u24 u25 u26 u27 u28 u29 u30 u31 u32 u33 u34 u35 u36 u37 u38 u39 u40 u41 u42 u43 u44 u45 u46 u47 u48 u49 u50 u51 u52 u53 u54 u55 u56 u57 u58 u59 u60 u61 u62 u63 u64 u65 u66 u67 u68 u69 u70 u71 u72 u73 u74 u75 u76 u77 u78 u79 u80 u81 u82 u83 u84 u85 u86 u87 u88 u89 u90 u91 u92 u93 u94 u95 u96 u97 u98 u99 u100 u101 u102 u103 u104 u105 u106 u107 u108 u109 u110 u111 u112 u113 u114 u115 u116 u117 u118 u119 u120 u121 u122 u123 u124 u125 u126 u127 u128 u129 u130 u131 u132 u133 u134 u135 u136 u137 u138 u139 u140 u141 u142 u143 u144 u145 u146 u147 u148 u149 u150 u151 u152 u153 u154 u155 u156 u157 u158 u159 u160 u161 u162 u163 u164 u165 u166 u167 u168 u169 u170 u171 u172 u173 u174 u175 u176 u177 u178 u179 u180 u181 u182 u183 u184 u185 u186 u187 u188 u189 u190 u191 u192 u193 u194 u195 : Value) :
    jcodeS.wp Tryz.prog (bodyPost Tryz.prog Tryz.f14 (fun e w' => joinQ X e w' ∧ New w w')) ⟨#[x0, x1, .pointer (some ⟨w.heap.size, 0, none⟩), .pointer (some ⟨w.heap.size + 1, 0, none⟩), .pointer (some ⟨w.heap.size + 1 + 1, 0, none⟩), .int .i64 0, .bool true, u7, u8, u9, u10, u11, u12, u13, u14, u15, u16, u17, u18, u19, u20, u21, u22, u23, u24, u25, u26, u27, u28, u29, u30, u31, u32, u33, u34, u35, u36, u37, u38, u39, u40, u41, u42, u43, u44, u45, u46, u47, u48, u49, u50, u51, u52, u53, u54, u55, u56, u57, u58, u59, u60, u61, u62, u63, u64, u65, u66, u67, u68, u69, u70, u71, u72, u73, u74, u75, u76, u77, u78, u79, u80, u81, u82, u83, u84, u85, u86, u87, u88, u89, u90, u91, u92, u93, u94, u95, u96, u97, u98, u99, u100, u101, u102, u103, u104, u105, u106, u107, u108, u109, u110, u111, u112, u113, u114, u115, u116, u117, u118, u119, u120, u121, u122, u123, u124, u125, u126, u127, u128, u129, u130, u131, u132, u133, u134, u135, u136, u137, u138, u139, u140, u141, u142, u143, u144, u145, u146, u147, u148, u149, u150, u151, u152, u153, u154, u155, u156, u157, u158, u159, u160, u161, u162, u163, u164, u165, u166, u167, u168, u169, u170, u171, u172, u173, u174, u175, u176, u177, u178, u179, u180, u181, u182, u183, u184, u185, u186, u187, u188, u189, u190, u191, u192, u193, u194, u195], []⟩ w3 := by
  have HC := hid (fun W O v3 v5 hT h3 n3 h5 n5 => jtailA a b p q w W X J O v3 v5 h k hp hq hoka hokb hJ hX hT h3 n3 h5 n5)
  obtain ⟨ta, tc, pa, pc, sa, sc, oa, oc⟩ := p
  obtain ⟨tb, td, pb, pd, sb, sd, ob, od⟩ := q
  have HO3 := hid (fun W (n : New w W) => rOnce_any ta tb tc td a.tr b.tr W (h.tr.new n) (k.tr.new n) hp.tr hq.tr (by have := hoka.trl; have := hokb.trl; omega))
  have HO5 := hid (fun W (n : New w W) => rOnce_any sa sb sc sd a.ws b.ws W (h.ws.new n) (k.ws.new n) hp.ws hq.ws (by have := hoka.wsl; have := hokb.wsl; omega))
  rw [show onceL (a.tr ++ b.tr) = J.tr by rw [hJ]; rfl] at HO3
  rw [show onceL (a.ws ++ b.ws) = J.ws by rw [hJ]; rfl] at HO5
  have A3 := hid hA3; have B3 := hid hB3; have M3 := hid hM3; have N3 := hid hN3
  clear h k hp hq hoka hokb hJ hX hA3 hB3 hM3 hN3
  generalize hF : Tryz.f14 = F
  delta jcodeS
  dsimp only [Tryz.f14]
  subst hF
  go_upto_region 6 with fail
  go_cut [7] (fun s7 wx => ∃ (O : Nat) (v5 v6 : Value), s7 = .pointer (some ⟨O, 0, none⟩) ∧ JT w wx a b ⟨ta, tc, pa, pc, sa, sc, oa, oc⟩ ⟨tb, td, pb, pd, sb, sd, ob, od⟩ O #[.string a.old, .string a.new, .string a.name, v5, .slice none 0 0, v6, .slice none 0 0] ∧ OwnS wx (w.heap.size + 3) v5 J.tr ∧ v5.ownBlock ≠ some O ∧ OwnS wx (w.heap.size + 3) v6 J.ws ∧ v6.ownBlock ≠ some O)
  case first =>
    have hlo : w.heap.size + 3 ≤ w3.heap.size := by have := M3.out.lt; omega
    have HS3 := hid (JrS.of (a := a) (b := b) (p := ⟨ta, tc, pa, pc, sa, sc, oa, oc⟩) (q := ⟨tb, td, pb, pd, sb, sd, ob, od⟩) M3.out A3.out B3.out N3.out)
    have HSD := hid HS3.out.drew
    refine wp_region_held_drew (S := (fun w' => w'.cell? ⟨w.heap.size, 0, none⟩ = some (.string a.old) ∧ w'.cell? ⟨w.heap.size, 1, none⟩ = some (.string a.new) ∧ w'.cell? ⟨w.heap.size, 2, none⟩ = some (.string a.name) ∧ w'.cell? ⟨w.heap.size, 3, none⟩ = some (.slice ta a.tr.length tc) ∧ w'.cell? ⟨w.heap.size + 1, 3, none⟩ = some (.slice tb b.tr.length td) ∧ w'.cell? ⟨w.heap.size, 5, none⟩ = some (.slice sa a.ws.length sc) ∧ w'.cell? ⟨w.heap.size + 1, 5, none⟩ = some (.slice sb b.ws.length sd))) (by kernel_rfl) HS3.out.drew.held (fun hHeld => ?_)
    refine tk (v := ?_) 0 ?_ ?_
    rotate_left
    · intro w hSw
      (try dsimp only at hSw)
      first | (go_simp; done) | (go_simp; with_reducible rfl) | with_reducible rfl
    simp only [Act.put, List.setIfInBounds_toArray, List.set_cons_zero, List.set_cons_succ]
    refine tk (v := ?_) 1 ?_ ?_
    rotate_left
    · intro w hSw
      (try dsimp only at hSw)
      first | (go_simp; done) | (go_simp; with_reducible rfl) | with_reducible rfl
    simp only [Act.put, List.setIfInBounds_toArray, List.set_cons_zero, List.set_cons_succ]
    refine tk (v := ?_) 2 ?_ ?_
    rotate_left
    · intro w hSw
      (try dsimp only at hSw)
      first | (go_simp; done) | (go_simp; with_reducible rfl) | with_reducible rfl
    simp only [Act.put, List.setIfInBounds_toArray, List.set_cons_zero, List.set_cons_succ]
    refine tk (v := ?_) 3 ?_ ?_
    rotate_left
    · intro w hSw
      (try dsimp only at hSw)
      first | (go_simp; done) | (go_simp; with_reducible rfl) | with_reducible rfl
    simp only [Act.put, List.setIfInBounds_toArray, List.set_cons_zero, List.set_cons_succ]
    refine tk (v := ?_) 4 ?_ ?_
    rotate_left
    · intro w hSw
      (try dsimp only at hSw)
      first | (go_simp; done) | (go_simp; with_reducible rfl) | with_reducible rfl
    simp only [Act.put, List.setIfInBounds_toArray, List.set_cons_zero, List.set_cons_succ]
    refine tk (v := ?_) 5 ?_ ?_
    rotate_left
    · intro w hSw
      (try dsimp only at hSw)
      first | (go_simp; done) | (go_simp; with_reducible rfl) | with_reducible rfl
    simp only [Act.put, List.setIfInBounds_toArray, List.set_cons_zero, List.set_cons_succ]
    refine tk (v := ?_) 6 ?_ ?_
    rotate_left
    · intro w hSw
      (try dsimp only at hSw)
      first | (go_simp; done) | (go_simp; with_reducible rfl) | with_reducible rfl
    simp only [Act.put, List.setIfInBounds_toArray, List.set_cons_zero, List.set_cons_succ]
    refine tk (v := ?_) 7 ?_ ?_
    rotate_left
    · intro w hSw
      (try dsimp only at hSw)
      first | (go_simp; done) | (go_simp; with_reducible rfl) | with_reducible rfl
    simp only [Act.put, List.setIfInBounds_toArray, List.set_cons_zero, List.set_cons_succ]
    refine tk (v := ?_) 8 ?_ ?_
    rotate_left
    · intro w hSw
      (try dsimp only at hSw)
      first | (go_simp; done) | (go_simp; with_reducible rfl) | with_reducible rfl
    simp only [Act.put, List.setIfInBounds_toArray, List.set_cons_zero, List.set_cons_succ]
    refine tk (v := ?_) 9 ?_ ?_
    rotate_left
    · intro w hSw
      (try dsimp only at hSw)
      first | (go_simp; done) | (go_simp; with_reducible rfl) | with_reducible rfl
    simp only [Act.put, List.setIfInBounds_toArray, List.set_cons_zero, List.set_cons_succ]
    refine tk (v := ?_) 11 ?_ ?_
    rotate_left
    · intro w hSw
      (try dsimp only at hSw)
      first | (go_simp; done) | (go_simp; with_reducible rfl) | with_reducible rfl
    simp only [Act.put, List.setIfInBounds_toArray, List.set_cons_zero, List.set_cons_succ]
    refine tk (v := ?_) 12 ?_ ?_
    rotate_left
    · intro w hSw
      (try dsimp only at hSw)
      first | (go_simp; done) | (go_simp; with_reducible rfl) | with_reducible rfl
    simp only [Act.put, List.setIfInBounds_toArray, List.set_cons_zero, List.set_cons_succ]
    refine tk (v := ?_) 13 ?_ ?_
    rotate_left
    · intro w hSw
      (try dsimp only at hSw)
      first | (go_simp; done) | (go_simp; with_reducible rfl) | with_reducible rfl
    simp only [Act.put, List.setIfInBounds_toArray, List.set_cons_zero, List.set_cons_succ]
    refine tk (v := ?_) 14 ?_ ?_
    rotate_left
    · intro w hSw
      (try dsimp only at hSw)
      first | (go_simp; done) | (go_simp; with_reducible rfl) | with_reducible rfl
    simp only [Act.put, List.setIfInBounds_toArray, List.set_cons_zero, List.set_cons_succ]
    refine wpAnyH_ready (rs := [10, 17]) (by kernel_rfl) (by simp) ?_
    refine AllReadyH.cons (by simp only [List.getElem?_toArray, List.getElem?_cons_succ, List.getElem?_cons_zero]; rfl) (fun K hK => ?_) (AllReadyH.cons (by simp only [List.getElem?_toArray, List.getElem?_cons_succ, List.getElem?_cons_zero]; rfl) (fun K hK => ?_) AllReadyH.nil)
    · go_simp
      (go_at_call 42; refine (HO3.out _ HSD.out.new).mono ?_; rintro e w5 ⟨v5, rfl, oo, nn⟩)
      obtain ⟨av5, cv5, hsl, -⟩ := OwnS.at' oo
      subst hsl
      try dsimp only
      have HS5 := hid (HSD.out.next nn)
      have OWNv5 := hid (oo.base (base' := w.heap.size + 3) HSD.out.lo)
      have BNDv5 := hid (fun k (q : (Value.slice av5 _ cv5).ownBlock = some k) => (oo.block q))
      have SZv5 := nn.size
      have NNv5 := hid nn
      refine hK.out _ _ HS5.out.held (fun hHeldv5 => ?_)
      clear hK K oo nn
      try simp only [Act.put, List.setIfInBounds_toArray, List.set_cons_zero, List.set_cons_succ]
      refine wpAnyH_ready (rs := [15, 17]) (by kernel_rfl) (by simp) ?_
      refine AllReadyH.cons (by simp only [List.getElem?_toArray, List.getElem?_cons_succ, List.getElem?_cons_zero]; rfl) (fun K hK => ?_) (AllReadyH.cons (by simp only [List.getElem?_toArray, List.getElem?_cons_succ, List.getElem?_cons_zero]; rfl) (fun K hK => ?_) AllReadyH.nil)
      · go_simp
        (go_at_call 42; refine (HO5.out _ HS5.out.new).mono ?_; rintro e w6 ⟨v6, rfl, oo, nn⟩)
        obtain ⟨av6, cv6, hsl, -⟩ := OwnS.at' oo
        subst hsl
        try dsimp only
        have HS6 := hid (HS5.out.next nn)
        have OWNv6 := hid (oo.base (base' := w.heap.size + 3) HS5.out.lo)
        have BNDv6 := hid (fun k (q : (Value.slice av6 _ cv6).ownBlock = some k) => (oo.block q))
        have SZv6 := nn.size
        have NNv6 := hid nn
        refine hK.out _ _ HS6.out.held (fun hHeldv6 => ?_)
        clear hK K oo nn
        try simp only [Act.put, List.setIfInBounds_toArray, List.set_cons_zero, List.set_cons_succ]
        refine tk (v := ?_) 16 ?_ ?_
        rotate_left
        · intro w hSw
          (try dsimp only at hSw)
          first | (go_simp; done) | (go_simp; with_reducible rfl) | with_reducible rfl
        simp only [Act.put, List.setIfInBounds_toArray, List.set_cons_zero, List.set_cons_succ]
        refine wpAnyH_ready (rs := [17]) (by kernel_rfl) (by simp) ?_
        refine AllReadyH.cons (by simp only [List.getElem?_toArray, List.getElem?_cons_succ, List.getElem?_cons_zero]; rfl) (fun K hK => ?_) AllReadyH.nil
        go_simp
        have HS7 := hid (HS6.out.next ((Mod.refl _ w6).alloc (.cells zeroMg 27)))
        refine hK.out _ _ HS7.out.held (fun hHeld7 => ?_)
        clear hK K
        try simp only [Act.put, List.setIfInBounds_toArray, List.set_cons_zero, List.set_cons_succ]
        have BO := hid (Blk.new w6 zeroMg 27)
        have L5 := hid ((OWNv5.out.new NNv6.out).new ((Mod.refl _ w6).alloc (.cells zeroMg 27)))
        have L6 := hid (OWNv6.out.new ((Mod.refl _ w6).alloc (.cells zeroMg 27)))
        have NE1 : (Value.slice av5 J.tr.length cv5).ownBlock ≠ some w6.heap.size := fun q => by have := (BNDv5.out _ q).2; omega
        have NE2 : (Value.slice av6 J.ws.length cv6).ownBlock ≠ some w6.heap.size := fun q => by have := (BNDv6.out _ q).2; omega
        have hlo6 := HS6.out.lo
        have z0 := BO.out.cellv 0 rfl; have z1 := BO.out.cellv 1 rfl; have z2 := BO.out.cellv 2 rfl; have z3 := BO.out.cellv 3 rfl; have z4 := BO.out.cellv 4 rfl; have z5 := BO.out.cellv 5 rfl; have z6 := BO.out.cellv 6 rfl
        have zl := BO.out.lt; have zf := BO.out.frz
        have hOO : w.heap.size + 3 ≤ w6.heap.size := by omega
        refine wpAnyH_ready (rs := [18]) (by kernel_rfl) (by simp) ?_
        refine AllReadyH.cons (by simp only [List.getElem?_toArray, List.getElem?_cons_succ, List.getElem?_cons_zero]; rfl) (fun K hK => ?_) AllReadyH.nil
        go_simp
        refine hK.out _ _ (JrS.held (HS6.out.next ((Mod.refl _ w6).alloc _))) (fun hHeld18 => ?_)
        clear hK K
        try simp only [Act.put, List.setIfInBounds_toArray, List.set_cons_zero, List.set_cons_succ]
        refine wpAnyH_done (by kernel_rfl) ?_ _
        go_wp2
        go_meet
        exact ⟨w6.heap.size, _, _, rfl, JrS.jt (HS6.out.next ((Mod.refl _ w6).alloc _)) hOO (Blk.new _ _ _), (OWNv5.out.new NNv6.out).new ((Mod.refl _ w6).alloc _), NE1, OWNv6.out.new ((Mod.refl _ w6).alloc _), NE2⟩
      · go_simp
        have HS7 := hid (HS5.out.next ((Mod.refl _ w5).alloc (.cells zeroMg 27)))
        refine hK.out _ _ HS7.out.held (fun hHeld7 => ?_)
        clear hK K
        try simp only [Act.put, List.setIfInBounds_toArray, List.set_cons_zero, List.set_cons_succ]
        refine wpAnyH_ready (rs := [15]) (by kernel_rfl) (by simp) ?_
        refine AllReadyH.cons (by simp only [List.getElem?_toArray, List.getElem?_cons_succ, List.getElem?_cons_zero]; rfl) (fun K hK => ?_) AllReadyH.nil
        go_simp
        (go_at_call 42; refine (HO5.out _ HS7.out.new).mono ?_; rintro e w6 ⟨v6, rfl, oo, nn⟩)
        obtain ⟨av6, cv6, hsl, -⟩ := OwnS.at' oo
        subst hsl
        try dsimp only
        have HS6 := hid (HS7.out.next nn)
        have OWNv6 := hid (oo.base (base' := w.heap.size + 3) HS7.out.lo)
        have BNDv6 := hid (fun k (q : (Value.slice av6 _ cv6).ownBlock = some k) => (oo.block q))
        have SZv6 := nn.size
        have NNv6 := hid nn
        refine hK.out _ _ HS6.out.held (fun hHeldv6 => ?_)
        clear hK K oo nn
        try simp only [Act.put, List.setIfInBounds_toArray, List.set_cons_zero, List.set_cons_succ]
        refine tk (v := ?_) 16 ?_ ?_
        rotate_left
        · intro w hSw
          (try dsimp only at hSw)
          first | (go_simp; done) | (go_simp; with_reducible rfl) | with_reducible rfl
        simp only [Act.put, List.setIfInBounds_toArray, List.set_cons_zero, List.set_cons_succ]
        have BO := hid (New.blk NNv6.out (Blk.new w5 zeroMg 27))
        have L5 := hid ((OWNv5.out.new ((Mod.refl _ w5).alloc (.cells zeroMg 27))).new NNv6.out)
        have NE1 : (Value.slice av5 J.tr.length cv5).ownBlock ≠ some w5.heap.size := fun q => by have := (BNDv5.out _ q).2; omega
        have NE2 : (Value.slice av6 J.ws.length cv6).ownBlock ≠ some w5.heap.size := fun q => by have := (BNDv6.out _ q).1; simp at this; omega
        have hlo6 := HS5.out.lo
        have z0 := BO.out.cellv 0 rfl; have z1 := BO.out.cellv 1 rfl; have z2 := BO.out.cellv 2 rfl; have z3 := BO.out.cellv 3 rfl; have z4 := BO.out.cellv 4 rfl; have z5 := BO.out.cellv 5 rfl; have z6 := BO.out.cellv 6 rfl
        have zl := BO.out.lt; have zf := BO.out.frz
        have hOO : w.heap.size + 3 ≤ w5.heap.size := by omega
        have P7 := hid (put7 w6 w5.heap.size (.string a.old) (.string a.new) (.string a.name) (.slice av5 J.tr.length cv5) (.slice none 0 0) (.slice av6 J.ws.length cv6) (.slice none 0 0))
        have B7 := hid (blk7 (.string a.old) (.string a.new) (.string a.name) (.slice av5 J.tr.length cv5) (.slice none 0 0) (.slice av6 J.ws.length cv6) (.slice none 0 0) BO.out)
        refine wpAnyH_ready (rs := [18]) (by kernel_rfl) (by simp) ?_
        refine AllReadyH.cons (by simp only [List.getElem?_toArray, List.getElem?_cons_succ, List.getElem?_cons_zero]; rfl) (fun K hK => ?_) AllReadyH.nil
        go_simp
        refine hK.out _ _ (JrS.put HS6.out hOO P7.out).held (fun hHeld18 => ?_)
        clear hK K
        try simp only [Act.put, List.setIfInBounds_toArray, List.set_cons_zero, List.set_cons_succ]
        refine wpAnyH_done (by kernel_rfl) ?_ _
        clear z0 z1 z2 z3 z4 z5 z6 zl zf
        go_wp2
        go_meet
        exact ⟨w5.heap.size, _, _, rfl, JrS.jt (JrS.put HS6.out hOO P7.out) hOO B7.out, OwnS.mod L5.out P7.out (fun k q e => NE1 (by rw [q, e])), NE1, OwnS.mod OWNv6.out P7.out (fun k q e => NE2 (by rw [q, e])), NE2⟩
    · go_simp
      have HS4 := hid (HSD.out.next ((Mod.refl _ w3.drew).alloc (.cells zeroMg 27)))
      refine hK.out _ _ HS4.out.held (fun hHeld7 => ?_)
      clear hK K
      try simp only [Act.put, List.setIfInBounds_toArray, List.set_cons_zero, List.set_cons_succ]
      refine wpAnyH_ready (rs := [10]) (by kernel_rfl) (by simp) ?_
      refine AllReadyH.cons (by simp only [List.getElem?_toArray, List.getElem?_cons_succ, List.getElem?_cons_zero]; rfl) (fun K hK => ?_) AllReadyH.nil
      go_simp
      (go_at_call 42; refine (HO3.out _ HS4.out.new).mono ?_; rintro e w5 ⟨v5, rfl, oo, nn⟩)
      obtain ⟨av5, cv5, hsl, -⟩ := OwnS.at' oo
      subst hsl
      try dsimp only
      have HS5 := hid (HS4.out.next nn)
      have OWNv5 := hid (oo.base (base' := w.heap.size + 3) HS4.out.lo)
      have BNDv5 := hid (fun k (q : (Value.slice av5 _ cv5).ownBlock = some k) => (oo.block q))
      have SZv5 := nn.size
      have NNv5 := hid nn
      refine hK.out _ _ HS5.out.held (fun hHeldv5 => ?_)
      clear hK K oo nn
      try simp only [Act.put, List.setIfInBounds_toArray, List.set_cons_zero, List.set_cons_succ]
      refine wpAnyH_ready (rs := [15]) (by kernel_rfl) (by simp) ?_
      refine AllReadyH.cons (by simp only [List.getElem?_toArray, List.getElem?_cons_succ, List.getElem?_cons_zero]; rfl) (fun K hK => ?_) AllReadyH.nil
      go_simp
      (go_at_call 42; refine (HO5.out _ HS5.out.new).mono ?_; rintro e w6 ⟨v6, rfl, oo, nn⟩)
      obtain ⟨av6, cv6, hsl, -⟩ := OwnS.at' oo
      subst hsl
      try dsimp only
      have HS6 := hid (HS5.out.next nn)
      have OWNv6 := hid (oo.base (base' := w.heap.size + 3) HS5.out.lo)
      have BNDv6 := hid (fun k (q : (Value.slice av6 _ cv6).ownBlock = some k) => (oo.block q))
      have SZv6 := nn.size
      have NNv6 := hid nn
      refine hK.out _ _ HS6.out.held (fun hHeldv6 => ?_)
      clear hK K oo nn
      try simp only [Act.put, List.setIfInBounds_toArray, List.set_cons_zero, List.set_cons_succ]
      refine tk (v := ?_) 16 ?_ ?_
      rotate_left
      · intro w hSw
        (try dsimp only at hSw)
        first | (go_simp; done) | (go_simp; with_reducible rfl) | with_reducible rfl
      simp only [Act.put, List.setIfInBounds_toArray, List.set_cons_zero, List.set_cons_succ]
      have BO : Hid (Blk w6 w3.heap.size zeroMg 27) := hid (New.blk NNv6.out (New.blk NNv5.out (Blk.new w3.drew zeroMg 27)))
      have L5 := hid (OWNv5.out.new NNv6.out)
      have NE1 : (Value.slice av5 J.tr.length cv5).ownBlock ≠ some w3.heap.size := fun q => by have := (BNDv5.out _ q).1; simp at this; omega
      have NE2 : (Value.slice av6 J.ws.length cv6).ownBlock ≠ some w3.heap.size := fun q => by have := (BNDv6.out _ q).1; simp at SZv5; omega
      have hlo6 : w.heap.size + 3 ≤ w3.heap.size := hlo
      have z0 := BO.out.cellv 0 rfl; have z1 := BO.out.cellv 1 rfl; have z2 := BO.out.cellv 2 rfl; have z3 := BO.out.cellv 3 rfl; have z4 := BO.out.cellv 4 rfl; have z5 := BO.out.cellv 5 rfl; have z6 := BO.out.cellv 6 rfl
      have zl := BO.out.lt; have zf := BO.out.frz
      have hOO : w.heap.size + 3 ≤ w3.heap.size := by omega
      have P7 := hid (put7 w6 w3.heap.size (.string a.old) (.string a.new) (.string a.name) (.slice av5 J.tr.length cv5) (.slice none 0 0) (.slice av6 J.ws.length cv6) (.slice none 0 0))
      have B7 := hid (blk7 (.string a.old) (.string a.new) (.string a.name) (.slice av5 J.tr.length cv5) (.slice none 0 0) (.slice av6 J.ws.length cv6) (.slice none 0 0) BO.out)
      refine wpAnyH_ready (rs := [18]) (by kernel_rfl) (by simp) ?_
      refine AllReadyH.cons (by simp only [List.getElem?_toArray, List.getElem?_cons_succ, List.getElem?_cons_zero]; rfl) (fun K hK => ?_) AllReadyH.nil
      go_simp
      refine hK.out _ _ (JrS.put HS6.out hOO P7.out).held (fun hHeld18 => ?_)
      clear hK K
      try simp only [Act.put, List.setIfInBounds_toArray, List.set_cons_zero, List.set_cons_succ]
      refine wpAnyH_done (by kernel_rfl) ?_ _
      clear z0 z1 z2 z3 z4 z5 z6 zl zf
      go_wp2
      go_meet
      exact ⟨w3.heap.size, _, _, rfl, JrS.jt (JrS.put HS6.out hOO P7.out) hOO B7.out, OwnS.mod L5.out P7.out (fun k q e => NE1 (by rw [q, e])), NE1, OwnS.mod OWNv6.out P7.out (fun k q e => NE2 (by rw [q, e])), NE2⟩
  case rest =>
    obtain ⟨O, v5, v6, rfl, hJT, h5, ne5, h6, ne6⟩ := hcut
    go_step
    exact HC.out wc O v5 v6 hJT h5 ne5 h6 ne6 _ _ _ _ _ _ _ _ _ _ _ _ _ _ _ _ _ _ _ _ _ _ _ _ _ _ _ _ _ _ _ _ _ _ _ _ _ _ _ _ _ _ _ _ _ _ _ _ _ _ _ _ _ _ _ _ _ _ _ _ _ _ _ _ _ _ _ _ _ _ _ _ _ _ _ _ _ _ _ _ _ _ _ _ _ _ _ _ _ _ _ _ _ _ _ _ _ _ _ _ _ _ _ _ _ _ _ _ _ _ _ _ _ _ _ _ _ _ _ _ _ _ _ _ _ _ _ _ _ _ _ _ _ _ _ _ _ _ _ _ _ _ _ _ _ _ _ _ _ _ _ _ _ _ _ _ _ _ _ _ _ _ _ _ _ _ _ _ _ _ _ _ _ _ _ _ _ _ _ _ _ _ _ _ _ _ _ _ _ _
end Go.Proofs.YtbgmkplpolgebaaGreatDoor
