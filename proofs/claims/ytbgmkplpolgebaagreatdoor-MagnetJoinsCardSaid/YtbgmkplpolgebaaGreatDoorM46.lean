/-
  Several texts in one, in their build order. Two magnets put together (the reference: Join): the addresses, each once. Conditions as told. Two magnets put together (the reference: Join): the sums and the name. Conditions as told.
-/
import Derived.Test.YtbgmkplpolgebaaGreatDoorM40
import Derived.Test.YtbgmkplpolgebaaGreatDoorM42
import Derived.Test.YtbgmkplpolgebaaGreatDoorM45
import Derived.Deep.CutBlock
namespace Go.Proofs.YtbgmkplpolgebaaGreatDoor
set_option linter.unusedSimpArgs false
set_option linter.unusedVariables false
open Go.RowKit Go.Shelf

theorem JT.at' {w0 W W' : World} {a b : MgV} {p q : MgP} {O : Nat} {o o' : Array Value} (h : JT w0 W a b p q O o) (m : Mod (fun j => j = O) W W') (hb : Blk W' O o' 27) : JT w0 W' a b p q O o' := by
  have h2 := h.hO
  exact ⟨m.blk h.bA (by omega), m.blk h.bB (by omega), m.blk h.bM (by omega), hb, h.hO, h.new.trans' m (fun j q1 q2 => by omega)⟩
theorem JT.peers {w0 W : World} {a b : MgV} {ta pa sa oa : Option Addr} {tc pc sc oc : Nat} {tb pb sb ob : Option Addr} {td pd sd od : Nat} {O : Nat} {o : Array Value} (h : JT w0 W a b ⟨ta, tc, pa, pc, sa, sc, oa, oc⟩ ⟨tb, td, pb, pd, sb, sd, ob, od⟩ O o) :
    W.cell? ⟨w0.heap.size, 4, none⟩ = some (.slice pa a.pe.length pc) ∧ W.cell? ⟨w0.heap.size + 1, 4, none⟩ = some (.slice pb b.pe.length pd) := ⟨h.bA.cellv 4 rfl, h.bB.cellv 4 rfl⟩
theorem OwnA.lies {w : World} {base n c : Nat} {a : Option Addr} {l : List AdrV} (h : OwnA w base (.slice a n c) l) (hs : ∀ x ∈ l, x.ip.size ≤ maxLen) : AdrsAt w a c l := by
  obtain ⟨a', c', e, h1⟩ := OwnA.at' h hs
  injection e with e1 e2 e3
  rw [e1, e3]
  exact h1
set_option maxRecDepth 100000 in
set_option maxHeartbeats 16000000 in
theorem jtailB (a b : MgV) (p q : MgP) (w W : World) (X : Except Int MgV) (J : MgV) (O : Nat) (v3 v5 : Value) (h : MagAt w a p) (k : MagAt w b q) (hp : Tidy p) (hq : Tidy q) (hoka : VOk a) (hokb : VOk b) (hon : J.on = joinOn a.on b.on)
    (hpe : J.pe = onceL (a.pe ++ b.pe)) (hX : X = if 10 < J.tr.length ∨ 10 < J.ws.length ∨ 20 < J.pe.length then .error 4 else .ok J)
    (hv : validMg J = !decide (10 < J.tr.length ∨ 10 < J.ws.length ∨ 20 < J.pe.length))
    (hT : JT w W a b p q O #[.string J.old, .string J.new, .string J.name, v3, .slice none 0 0, v5, .slice none 0 0])
    (h3 : OwnS W (w.heap.size + 3) v3 J.tr) (n3 : v3.ownBlock ≠ some O) (h5 : OwnS W (w.heap.size + 3) v5 J.ws) (n5 : v5.ownBlock ≠ some O)
    (hs : ∀ x ∈ J.pe, x.ip.size ≤ maxLen) (x0 x1 u8 u9 u10 u11 u12 u13 u14 u15 u16 u17 u18 u19 u20 u21 u22 u23 u24 u25 u26 u27 u28 u29 u30 u31 u32 u33 u34 u35 u36 u37 u38 u39 u40 u41 u42 u43 u44 u45 u46 u47 u48 u49 u50 u51 u52 u53 u54 u55 u56 u57 u58 u59 u60 u61 u62 u63 u64 u65 u66 u67 u68 u69 u70 u71 u72 u73 u74 u75 u76 u77 u78 u79 u80 u81 u82 u83 u84 u85 u86 u87 u88 u89 u90 u91 u92 u93 u94 u95 u96 u97 u98 u99 u100 u101 u102 u103 u104 u105 u106 u107 u108 u109 u110 u111 u112 u113 u114 u115 u116 u117 u118 u119 u120 u121 u122 u123 u124 u125 u126 u127 u128 u129 u130 u131 u132 u133 u134 u135 u136 u137 u138 u139 u140 u141 u142 u143 u144 u145 u146 u147 u148 u149 u150 u151 u152 u153 u154 u155 u156 u157 u158 u159 u160 u161 u162 u163 u164 u165 u166 u167 u168 u169 u170 u171 u172 u173 u174 u175 u176 u177 u178 u179 u180 u181 u182 u183 u184 u185 u186 u187 u188 u189 u190 u191 u192 u193 u194 u195 : Value) :
    jcodeB.wp Tryz.prog (bodyPost Tryz.prog Tryz.f14 (fun e w' => joinQ X e w' ∧ New w w')) ⟨#[x0, x1, .pointer (some ⟨w.heap.size, 0, none⟩), .pointer (some ⟨w.heap.size + 1, 0, none⟩), .pointer (some ⟨w.heap.size + 1 + 1, 0, none⟩), .int .i64 0, .bool true, .pointer (some ⟨O, 0, none⟩), u8, u9, u10, u11, u12, u13, u14, u15, u16, u17, u18, u19, u20, u21, u22, u23, u24, u25, u26, u27, u28, u29, u30, u31, u32, u33, u34, u35, u36, u37, u38, u39, u40, u41, u42, u43, u44, u45, u46, u47, u48, u49, u50, u51, u52, u53, u54, u55, u56, u57, u58, u59, u60, u61, u62, u63, u64, u65, u66, u67, u68, u69, u70, u71, u72, u73, u74, u75, u76, u77, u78, u79, u80, u81, u82, u83, u84, u85, u86, u87, u88, u89, u90, u91, u92, u93, u94, u95, u96, u97, u98, u99, u100, u101, u102, u103, u104, u105, u106, u107, u108, u109, u110, u111, u112, u113, u114, u115, u116, u117, u118, u119, u120, u121, u122, u123, u124, u125, u126, u127, u128, u129, u130, u131, u132, u133, u134, u135, u136, u137, u138, u139, u140, u141, u142, u143, u144, u145, u146, u147, u148, u149, u150, u151, u152, u153, u154, u155, u156, u157, u158, u159, u160, u161, u162, u163, u164, u165, u166, u167, u168, u169, u170, u171, u172, u173, u174, u175, u176, u177, u178, u179, u180, u181, u182, u183, u184, u185, u186, u187, u188, u189, u190, u191, u192, u193, u194, u195], []⟩ W := by
  have HC := hid (fun W v4 J1 J2 n4 => jtailC a b p q w W X J O v3 v4 v5 h k hoka hokb hon hX hv J1 J2 n3 n4 n5 hs)
  obtain ⟨ta, tc, pa, pc, sa, sc, oa, oc⟩ := p
  obtain ⟨tb, td, pb, pd, sb, sd, ob, od⟩ := q
  have hO := hT.hO; have hOl := hT.bO.lt
  have lA := hoka.pel; have lB := hokb.pel
  have NDx : New W (W.drew.alloc (.cells #[] 64)) := ((Mod.refl _ W).drew).alloc _
  obtain ⟨v1, W1, hr1, ho1, hg1, -⟩ := cat_runA (OwnA.fresh W.drew W.heap.size (Nat.le_refl _)) ((h.pe.new hT.new).new NDx) hp.pe (by simp; omega) NDx.size
  have N1x : New W W1 := newGrown NDx hg1 (fun j hj => ((OwnA.fresh W.drew W.heap.size (Nat.le_refl _)).block hj).1)
  obtain ⟨v2, W2, hr2, ho2, hg2, -⟩ := cat_runA ho1 ((k.pe.new hT.new).new N1x) hq.pe (by simp; omega) N1x.size
  have N2x : New W W2 := newGrown N1x hg2 (fun j hj => (ho1.block hj).1)
  rw [List.nil_append] at ho1 ho2
  have hsm : ∀ x ∈ a.pe ++ b.pe, x.ip.size ≤ maxLen := fun x hx => hs x (by rw [hpe]; exact mem_onceL.2 hx)
  have hll : (a.pe ++ b.pe).length ≤ 40 := by rw [List.length_append]; omega
  obtain ⟨L, hL⟩ : ∃ L, L = a.pe ++ b.pe := ⟨_, rfl⟩
  rw [← hL] at ho2 hll hsm hpe
  obtain ⟨av, cv, rfl⟩ := OwnA.form ho2
  have HO2 := hid ho2; have HSM := hid hsm; have HPE := hid hpe
  have J0 := hid hT; have JD := hid (hT.next ((Mod.refl _ W).drew)); have JN := hid (hT.next NDx); have J1 := hid (hT.next N1x); have J2 := hid (hT.next N2x)
  have N2 := hid N2x
  have H3 := hid (h3.new N2x); have H5 := hid (h5.new N2x)
  have HOW : Hid (W.heap.size ≤ W2.heap.size) := hid N2x.size
  have HBN := hid (fun g (e : (Value.slice av L.length cv).ownBlock = some g) => (ho2.block e).1)
  have hO1 := hid hOl; have hO2 := hid hO
  have NE3 := hid n3; have NE5 := hid n5
  clear hX hv hT h3 h5 h k hp hq hoka hokb hs hsm hpe hon ho1 ho2 hg1 hg2 N1x N2x NDx hL n3 n5 lA lB hOl hO
  generalize hF : Tryz.f14 = F
  delta jcodeB jcodeA
  dsimp only [Tryz.f14]
  subst hF
  go_upto_region 13 with fail
  refine wp_region_held_drew (S := (fun w' => w'.cell? ⟨w.heap.size, 4, none⟩ = some (.slice pa a.pe.length pc) ∧ w'.cell? ⟨w.heap.size + 1, 4, none⟩ = some (.slice pb b.pe.length pd))) (by kernel_rfl) JD.out.peers (fun hHeld => ?_)
  refine tk (v := ?_) 1 ?_ ?_
  rotate_left
  · intro w hSw
    (try dsimp only at hSw)
    first | (go_simp; done) | (go_simp; with_reducible rfl) | with_reducible rfl
  simp only [Act.put, List.setIfInBounds_toArray, List.set_cons_zero, List.set_cons_succ]
  refine tk (v := ?_) 2 ?_ ?_
  rotate_left
  · intro w hSw
    (try dsimp only at hSw)
    first | (go_simp; done) | (go_simp; with_reducible rfl) | with_reducible rfl
  simp only [Act.put, List.setIfInBounds_toArray, List.set_cons_zero, List.set_cons_succ]
  refine tk (v := ?_) 4 ?_ ?_
  rotate_left
  · intro w hSw
    (try dsimp only at hSw)
    first | (go_simp; done) | (go_simp; with_reducible rfl) | with_reducible rfl
  simp only [Act.put, List.setIfInBounds_toArray, List.set_cons_zero, List.set_cons_succ]
  refine tk (v := ?_) 5 ?_ ?_
  rotate_left
  · intro w hSw
    (try dsimp only at hSw)
    first | (go_simp; done) | (go_simp; with_reducible rfl) | with_reducible rfl
  simp only [Act.put, List.setIfInBounds_toArray, List.set_cons_zero, List.set_cons_succ]
  refine tk (v := ?_) 8 ?_ ?_
  rotate_left
  · intro w hSw
    (try dsimp only at hSw)
    first | (go_simp; done) | (go_simp; with_reducible rfl) | with_reducible rfl
  simp only [Act.put, List.setIfInBounds_toArray, List.set_cons_zero, List.set_cons_succ]
  refine wpAnyH_ready (rs := [0]) (by kernel_rfl) (by simp) ?_
  refine AllReadyH.cons (by simp only [List.getElem?_toArray, List.getElem?_cons_succ, List.getElem?_cons_zero]; rfl) (fun K hK => ?_) AllReadyH.nil
  go_simp
  refine hK.out _ _ JN.out.peers (fun hHeld0 => ?_)
  clear hK K
  try simp only [Act.put, List.setIfInBounds_toArray, List.set_cons_zero, List.set_cons_succ]
  refine wpAnyH_ready (rs := [3]) (by kernel_rfl) (by simp) ?_
  refine AllReadyH.cons (by simp only [List.getElem?_toArray, List.getElem?_cons_succ, List.getElem?_cons_zero]; rfl) (fun K hK => ?_) AllReadyH.nil
  rw [if_pos (by rfl)]
  refine op_appendM _ _ _ rfl rfl rfl hr1 ?_
  simp only [Act.put, List.setIfInBounds_toArray, List.set_cons_zero, List.set_cons_succ]
  refine hK.out _ _ J1.out.peers (fun hHeld3 => ?_)
  clear hK K
  try simp only [Act.put, List.setIfInBounds_toArray, List.set_cons_zero, List.set_cons_succ]
  refine wpAnyH_ready (rs := [6]) (by kernel_rfl) (by simp) ?_
  refine AllReadyH.cons (by simp only [List.getElem?_toArray, List.getElem?_cons_succ, List.getElem?_cons_zero]; rfl) (fun K hK => ?_) AllReadyH.nil
  rw [if_pos (by rfl)]
  refine op_appendM _ _ _ rfl rfl rfl hr2 ?_
  simp only [Act.put, List.setIfInBounds_toArray, List.set_cons_zero, List.set_cons_succ]
  refine hK.out _ _ J2.out.peers (fun hHeld6 => ?_)
  clear hK K
  try simp only [Act.put, List.setIfInBounds_toArray, List.set_cons_zero, List.set_cons_succ]
  refine tk (v := ?_) 7 ?_ ?_
  rotate_left
  · intro w hSw
    (try dsimp only at hSw)
    first | (go_simp; done) | (go_simp; with_reducible rfl) | with_reducible rfl
  simp only [Act.put, List.setIfInBounds_toArray, List.set_cons_zero, List.set_cons_succ]
  refine wpAnyH_done (by kernel_rfl) ?_ _
  clear hr1 hr2 hHeld hHeld0 hHeld3 hHeld6 JD JN J1
  obtain ⟨i0, hi, hz0, hz1, hz2⟩ := info_parts info_adrM
  go_upto_block 0 with fail
  go_cut [] (fun wx => ∃ v4, JT w wx a b ⟨ta, tc, pa, pc, sa, sc, oa, oc⟩ ⟨tb, td, pb, pd, sb, sd, ob, od⟩ O #[.string J.old, .string J.new, .string J.name, v3, v4, v5, .slice none 0 0] ∧ JL wx (w.heap.size + 3) v3 v4 v5 (.slice none 0 0) J.tr J.pe J.ws [] ∧ v4.ownBlock ≠ some O)
  case first =>
    go_wp2_with fail
    go_loopw [130] (fun i wr => ∃ (k : Nat) (v4 : Value), i = .int .i64 k ∧ k ≤ L.length ∧ Blk wr O #[.string J.old, .string J.new, .string J.name, v3, v4, v5, .slice none 0 0] 27 ∧ OwnA wr W2.heap.size v4 (onceL (L.take k)) ∧ Mod (fun j => j = O) W2 wr) (fun i _ => L.length - (intOf i).toNat)
    case atStart => exact ⟨0, _, rfl, by omega, J2.out.bO, OwnA.nil _ _, Mod.refl _ _⟩
    case round =>
      rename World => wo
      obtain ⟨k, v4, rfl, hk, hb, ho, hm⟩ := hrel
      have HB := hid hb; have HO := hid ho; have HM := hid hm
      have hol := onceL_len (L.take k)
      rw [List.length_take] at hol
      have HLA := hid (OwnA.lies (HO2.out.mod hm (fun g e1 e2 => by have := HBN.out g e1; have := hO1.out; omega)) HSM.out)
      have HOB := hid (fun g (e : v4.ownBlock = some g) => (ho.block e))
      obtain ⟨oa', oc', hof⟩ := OwnA.form ho
      have q4 : wo.cell? ⟨O, 4, none⟩ = some v4 := hb.cellv 4 rfl
      rw [hof] at q4
      by_cases hlt : k < L.length
      · obtain ⟨b1, o1, rfl, hb1, hcc⟩ := HLA.out.get (by omega)
        obtain ⟨g0, g1, g2⟩ := hcc k hlt
        have HYE := hid (fun hh => once_yes hlt hh)
        have HNE := hid (fun hh => once_new hlt hh)
        have hxs := HSM.out _ (List.getElem_mem hlt)
        have HOS := hid (show ∀ y ∈ onceL (L.take k), y.ip.size ≤ maxLen from fun y hy => HSM.out y (List.mem_of_mem_take (mem_onceL.1 hy)))
        obtain ⟨x, hx⟩ : ∃ x, x = L[k] := ⟨_, rfl⟩
        rw [← hx] at g0 g1 g2 HYE HNE hxs
        obtain ⟨Q, hQ⟩ : ∃ Q, Q = onceL (L.take k) := ⟨_, rfl⟩
        rw [← hQ] at HO HYE HNE hol hof HOS q4
        have HLO := hid (OwnA.lies (show OwnA wo W2.heap.size (.slice oa' Q.length oc') Q by rw [← hof]; exact HO.out) HOS.out)
        have hqr := HLO.out.room; have hqc := HLO.out.cap
        unfold maxLen at hqc
        subst hof
        have hOw := hb.lt
        have NB := hid ((Mod.refl (fun _ => False) wo).alloc (.cells #[.int .i64 x.fam, .string x.ip, .int .i64 x.port] 64))
        have BB := hid (Blk.new wo #[.int .i64 x.fam, .string x.ip, .int .i64 x.port] 64)
        clear hcc hb ho hm hx hQ HLA
        go_wp2_with fail
        go_loopw [10, 137] (fun th i wx => ∃ j : Nat, i = .int .i64 j ∧ j ≤ Q.length ∧ th = .bool (hasX x (Q.take j)) ∧ New (wo.alloc (.cells #[.int .i64 x.fam, .string x.ip, .int .i64 x.port] 64)) wx) (fun _ i _ => Q.length - (intOf i).toNat)
        case atStart => exact ⟨0, rfl, by omega, by rw [hasX_zero], by
          have q := Mod.refl (fun _ => False) (wo.alloc (.cells #[.int .i64 x.fam, .string x.ip, .int .i64 x.port] 64))
          exact q⟩
        case round =>
          rename World => wx
          obtain ⟨j, rfl, hj, rfl, hn2⟩ := hrel
          have HN2 := hid hn2
          have B2 := New.blk hn2 BB.out
          have y0 := B2.cellv 0 rfl; have y1 := B2.cellv 1 rfl; have y2 := B2.cellv 2 rfl; have yl := B2.lt
          clear B2 hn2 q4
          by_cases hjl : j < Q.length
          · obtain ⟨b2, o2, rfl, hb2, hcc2⟩ := HLO.out.get (by omega)
            obtain ⟨z0, z1, z2⟩ := hcc2 j hjl
            have z0 := (NB.out.trans HN2.out).cellv z0; have z1 := (NB.out.trans HN2.out).cellv z1; have z2 := (NB.out.trans HN2.out).cellv z2
            have HNX := hid (hasX_next (x := x) hjl)
            obtain ⟨y, hy⟩ : ∃ y, y = Q[j] := ⟨_, rfl⟩
            rw [← hy] at z0 z1 z2 HNX
            obtain ⟨B, hB⟩ : ∃ B, B = hasX x (Q.take j) := ⟨_, rfl⟩
            rw [← hB] at HNX ⊢
            clear hcc2 hy hB
            cases B with
            | true =>
              have HT := hid (show hasX x (Q.take (j + 1)) = true by rw [HNX.out]; rfl)
              go_wp2
              refine ⟨⟨j + 1, by simp, by omega, by rw [HT.out], ?_⟩, by simp [intOf]; omega⟩
              have q := HN2.out
              repeat (first | with_reducible exact q | with_reducible refine Mod.alloc ?_ _ | with_reducible refine Mod.drew ?_ | with_reducible refine Mod.drewN ?_ _ | (with_reducible refine Mod.set ?_ _ _ (by first | exact .inl rfl | (right; omega) | (right; simp; done) | (right; simp; omega) | (left; omega) | (left; simp; done) | (left; simp; omega))) | (with_reducible refine Mod.putObj ?_ _ _ (by first | exact .inl rfl | (right; omega) | (right; simp; done) | (right; simp; omega) | (left; omega) | (left; simp; done) | (left; simp; omega))))
            | false =>
              by_cases h1 : y.fam = x.fam
              · have c1 : (y.fam == x.fam) = true := by rw [beq_iff_eq]; exact h1
                by_cases h2 : y.ip = x.ip
                · have c2 : (y.ip.toList == x.ip.toList) = true := toL_iff.2 h2
                  by_cases h3 : y.port = x.port
                  · have c3 : (y.port == x.port) = true := by rw [beq_iff_eq]; exact h3
                    have HT := hid (show hasX x (Q.take (j + 1)) = true by rw [HNX.out, decide_eq_true (adr_eq h1 h2 h3)]; rfl)
                    clear h1 h2 h3
                    go_wp2
                    refine ⟨⟨j + 1, by simp, by omega, by rw [HT.out], ?_⟩, by simp [intOf]; omega⟩
                    have q := HN2.out
                    repeat (first | with_reducible exact q | with_reducible refine Mod.alloc ?_ _ | with_reducible refine Mod.drew ?_ | with_reducible refine Mod.drewN ?_ _ | (with_reducible refine Mod.set ?_ _ _ (by first | exact .inl rfl | (right; omega) | (right; simp; done) | (right; simp; omega) | (left; omega) | (left; simp; done) | (left; simp; omega))) | (with_reducible refine Mod.putObj ?_ _ _ (by first | exact .inl rfl | (right; omega) | (right; simp; done) | (right; simp; omega) | (left; omega) | (left; simp; done) | (left; simp; omega))))
                  · have c3 : (y.port == x.port) = false := by rw [beq_eq_false_iff_ne]; exact h3
                    have HT := hid (show hasX x (Q.take (j + 1)) = false by rw [HNX.out, decide_eq_false (fun e => h3 (by rw [e]))]; rfl)
                    clear h1 h2 h3
                    go_wp2
                    refine ⟨⟨j + 1, by simp, by omega, by rw [HT.out], ?_⟩, by simp [intOf]; omega⟩
                    have q := HN2.out
                    repeat (first | with_reducible exact q | with_reducible refine Mod.alloc ?_ _ | with_reducible refine Mod.drew ?_ | with_reducible refine Mod.drewN ?_ _ | (with_reducible refine Mod.set ?_ _ _ (by first | exact .inl rfl | (right; omega) | (right; simp; done) | (right; simp; omega) | (left; omega) | (left; simp; done) | (left; simp; omega))) | (with_reducible refine Mod.putObj ?_ _ _ (by first | exact .inl rfl | (right; omega) | (right; simp; done) | (right; simp; omega) | (left; omega) | (left; simp; done) | (left; simp; omega))))
                · have c2 : (y.ip.toList == x.ip.toList) = false := by rw [two_eq]; exact decide_eq_false h2
                  have HT := hid (show hasX x (Q.take (j + 1)) = false by rw [HNX.out, decide_eq_false (fun e => h2 (by rw [e]))]; rfl)
                  clear h1 h2
                  go_wp2
                  refine ⟨⟨j + 1, by simp, by omega, by rw [HT.out], ?_⟩, by simp [intOf]; omega⟩
                  have q := HN2.out
                  repeat (first | with_reducible exact q | with_reducible refine Mod.alloc ?_ _ | with_reducible refine Mod.drew ?_ | with_reducible refine Mod.drewN ?_ _ | (with_reducible refine Mod.set ?_ _ _ (by first | exact .inl rfl | (right; omega) | (right; simp; done) | (right; simp; omega) | (left; omega) | (left; simp; done) | (left; simp; omega))) | (with_reducible refine Mod.putObj ?_ _ _ (by first | exact .inl rfl | (right; omega) | (right; simp; done) | (right; simp; omega) | (left; omega) | (left; simp; done) | (left; simp; omega))))
              · have c1 : (y.fam == x.fam) = false := by rw [beq_eq_false_iff_ne]; exact h1
                have HT := hid (show hasX x (Q.take (j + 1)) = false by rw [HNX.out, decide_eq_false (fun e => h1 (by rw [e]))]; rfl)
                clear h1
                go_wp2
                refine ⟨⟨j + 1, by simp, by omega, by rw [HT.out], ?_⟩, by simp [intOf]; omega⟩
                have q := HN2.out
                repeat (first | with_reducible exact q | with_reducible refine Mod.alloc ?_ _ | with_reducible refine Mod.drew ?_ | with_reducible refine Mod.drewN ?_ _ | (with_reducible refine Mod.set ?_ _ _ (by first | exact .inl rfl | (right; omega) | (right; simp; done) | (right; simp; omega) | (left; omega) | (left; simp; done) | (left; simp; omega))) | (with_reducible refine Mod.putObj ?_ _ _ (by first | exact .inl rfl | (right; omega) | (right; simp; done) | (right; simp; omega) | (left; omega) | (left; simp; done) | (left; simp; omega))))
          · rw [List.take_of_length_le (by omega)]
            have NX := hid (NB.out.trans HN2.out)
            have HBX := hid (New.blk NX.out HB.out)
            have HMX := hid (HM.out.trans (New.mod NX.out))
            have HOX := hid (HO.out.new NX.out)
            cases hh : hasX x Q with
            | true =>
              have HNX := hid (HYE.out hh)
              clear hh
              go_wp2
              exact ⟨⟨k + 1, _, by simp, by omega, HBX.out, by rw [HNX.out]; exact HOX.out, HMX.out⟩, by simp [intOf]; omega⟩
            | false =>
              have HNX := hid (HNE.out hh)
              clear hh
              have q4 : wx.cell? ⟨O, 4, none⟩ = some (.slice oa' Q.length oc') := HBX.out.cellv 4 rfl
              have ol := HBX.out.lt; have of := HBX.out.frz
              go_wp2_with (first | (at_builtin; refine wpList_append_own_at _ rfl _ _ 24 rfl W2.heap.size 64 i0 _ 3 32 Tryz.underlying24 hi hz0 hz1 hz2 rfl (by decide) (.slice oa' Q.length oc') Q.length (adrRow Q) rfl ?zow ⟨wx.heap.size, 0, none⟩ 1 1 [.int .i64 x.fam, .string x.ip, .int .i64 x.port] rfl rfl ?zhn ?zh1 ?zh63 ?zhby ?zhba ?_) | fail)
              case zow => exact (HOX.out.new ((Mod.refl _ _).alloc _)).row
              case zhn => exact three_newM _ _ rfl _ _ _ _
              case zh1 => intro u hu; simp at hu; rcases hu with rfl | rfl | rfl <;> rfl
              case zh63 => unfold maxLen; omega
              case zhby => omega
              case zhba => have := HMX.out.size; simp; omega
              intro o' w' r' g' _ hat
              have H2 := hid (ownA_of (x := x) r')
              obtain ⟨fa, fc, rfl⟩ := OwnA.form H2.out
              have hlq : (Q ++ [x]).length = Q.length + 1 := by simp
              rw [hlq] at H2
              have HMG := hid (modGrown (HMX.out.trans (New.mod ((Mod.refl _ wx).alloc (.cells #[.int .i64 x.fam, .string x.ip, .int .i64 x.port] 64)))) g' (fun j hj => .inr (HOB.out j hj).1))
              have HBG := hid ((mod_grownS g').blk (New.blk ((Mod.refl _ wx).alloc (.cells #[.int .i64 x.fam, .string x.ip, .int .i64 x.port] 64)) HBX.out) (fun e => by have := (HOB.out O e).1; have := HOW.out; have := hO1.out; omega))
              have ol' := HBG.out.lt; have of' := HBG.out.frz; have q4' := HBG.out.cellv 4 rfl
              clear r' g' hat q4 ol of
              go_wp2
              have m : Mod (fun j => j = O) w' (w'.setCell ⟨O, 4, none⟩ (.slice fa (Q.length + 1) fc)) := (Mod.refl _ _).set _ _ (.inl rfl)
              exact ⟨⟨k + 1, _, by simp, by omega, (HBG.out.set 4 _).row rfl, by rw [HNX.out]; exact H2.out.mod m (fun j q1 q2 => by have := (H2.out.block q1).1; have := HOW.out; have := hO1.out; omega), HMG.out.trans m⟩, by simp [intOf]; omega⟩
      · have hkk : L.take k = L := List.take_of_length_le (by omega)
        rw [hkk, ← HPE.out] at ho
        have hJT := J2.out.at' hm hb
        have hl3 := H3.out.mod hm (fun g e1 e2 => NE3.out (by rw [e1, e2]))
        have hl5 := H5.out.mod hm (fun g e1 e2 => NE5.out (by rw [e1, e2]))
        have hD : w.heap.size + 3 ≤ W2.heap.size := by have := HOW.out; have := hO1.out; have := hO2.out; omega
        have hn4 : v4.ownBlock ≠ some O := fun e => by have := (ho.block e).1; have := HOW.out; have := hO1.out; omega
        have hJL : JL wo (w.heap.size + 3) v3 v4 v5 (.slice none 0 0) J.tr J.pe J.ws [] := ⟨hl3, ho.base hD, hl5, OwnR.nil _ _⟩
        clear q4 hof hb ho hm hl3 hl5 hD hol
        go_wp2_with fail
        go_meet
        exact ⟨v4, hJT, hJL, hn4⟩
  case rest =>
    obtain ⟨v4, hJT, hJL, hn4⟩ := hcut
    go_step
    exact HC.out wc v4 hJT hJL hn4 _ _ _ _ _ _ _ _ _ _ _ _ _ _ _ _ _ _ _ _ _ _ _ _ _ _ _ _ _ _ _ _ _ _ _ _ _ _ _ _ _ _ _ _ _ _ _ _ _ _ _ _ _ _ _ _ _ _ _ _ _ _ _ _ _ _ _ _ _ _ _ _ _ _ _ _ _ _ _ _ _ _ _ _ _ _ _ _ _ _ _ _ _ _ _ _ _ _ _ _ _ _ _ _ _ _ _ _ _ _ _ _ _ _ _ _ _ _ _ _ _ _ _ _ _ _ _ _ _ _ _ _ _ _ _ _ _ _ _ _ _ _ _ _ _ _ _ _ _ _ _ _ _ _ _ _ _ _ _ _ _ _ _ _ _ _ _ _ _ _ _ _ _ _ _ _ _ _ _ _ _ _ _ _ _ _ _ _ _ _
end Go.Proofs.YtbgmkplpolgebaaGreatDoor

namespace Go.Proofs.YtbgmkplpolgebaaGreatDoor
set_option linter.unusedSimpArgs false
set_option linter.unusedVariables false
open Go.RowKit Go.Shelf

/-- Where the sums and the name are joined. -/
structure JA (w0 W : World) (a b : MgV) (p q : MgP) (O : Nat) (s0 s1 s2 : ByteArray) (v3 v5 : Value) (J : MgV) : Prop where
  t : JT w0 W a b p q O #[.string s0, .string s1, .string s2, v3, .slice none 0 0, v5, .slice none 0 0]
  h3 : OwnS W (w0.heap.size + 3) v3 J.tr
  h5 : OwnS W (w0.heap.size + 3) v5 J.ws
theorem JA.put {w0 W : World} {a b : MgV} {p q : MgP} {O : Nat} {s0 s1 s2 t0 t1 t2 : ByteArray} {v3 v5 : Value} {J : MgV} (h : JA w0 W a b p q O s0 s1 s2 v3 v5 J) (n3 : v3.ownBlock ≠ some O) (n5 : v5.ownBlock ≠ some O) (i : Nat) (v : Value)
    (e : (#[.string s0, .string s1, .string s2, v3, .slice none 0 0, v5, .slice none 0 0] : Array Value).setIfInBounds i v = #[.string t0, .string t1, .string t2, v3, .slice none 0 0, v5, .slice none 0 0]) : JA w0 (W.setCell ⟨O, i, none⟩ v) a b p q O t0 t1 t2 v3 v5 J := by
  have m : Mod (fun j => j = O) W (W.setCell ⟨O, i, none⟩ v) := (Mod.refl _ _).set _ _ (.inl rfl)
  exact ⟨(h.t.set i v).row e, h.h3.mod m (fun g e1 e2 => n3 (by rw [e1, e2])), h.h5.mod m (fun g e1 e2 => n5 (by rw [e1, e2]))⟩
theorem topJ_no {x y : ByteArray} (h : x.size = 0) : topJ x y = y := by unfold topJ; rw [if_pos h]
theorem topJ_yes {x y : ByteArray} (h : ¬ x.size = 0) : topJ x y = x := by unfold topJ; rw [if_neg h]
set_option maxRecDepth 100000 in
set_option maxHeartbeats 16000000 in
theorem jtailA (a b : MgV) (p q : MgP) (w W : World) (X : Except Int MgV) (J : MgV) (O : Nat) (v3 v5 : Value) (h : MagAt w a p) (k : MagAt w b q) (hp : Tidy p) (hq : Tidy q) (hoka : VOk a) (hokb : VOk b) (hJ : J = joinV a b)
    (hX : X = if 10 < J.tr.length ∨ 10 < J.ws.length ∨ 20 < J.pe.length then .error 4 else .ok J)
    (hT : JT w W a b p q O #[.string a.old, .string a.new, .string a.name, v3, .slice none 0 0, v5, .slice none 0 0])
    (h3 : OwnS W (w.heap.size + 3) v3 J.tr) (n3 : v3.ownBlock ≠ some O) (h5 : OwnS W (w.heap.size + 3) v5 J.ws) (n5 : v5.ownBlock ≠ some O) (x0 x1 u8 u9 u10 u11 u12 u13 u14 u15 u16 u17 u18 u19 u20 u21 u22 u23 u24 u25 u26 u27 u28 u29 u30 u31 u32 u33 u34 u35 u36 u37 u38 u39 u40 u41 u42 u43 u44 u45 u46 u47 u48 u49 u50 u51 u52 u53 u54 u55 u56 u57 u58 u59 u60 u61 u62 u63 u64 u65 u66 u67 u68 u69 u70 u71 u72 u73 u74 u75 u76 u77 u78 u79 u80 u81 u82 u83 u84 u85 u86 u87 u88 u89 u90 u91 u92 u93 u94 u95 u96 u97 u98 u99 u100 u101 u102 u103 u104 u105 u106 u107 u108 u109 u110 u111 u112 u113 u114 u115 u116 u117 u118 u119 u120 u121 u122 u123 u124 u125 u126 u127 u128 u129 u130 u131 u132 u133 u134 u135 u136 u137 u138 u139 u140 u141 u142 u143 u144 u145 u146 u147 u148 u149 u150 u151 u152 u153 u154 u155 u156 u157 u158 u159 u160 u161 u162 u163 u164 u165 u166 u167 u168 u169 u170 u171 u172 u173 u174 u175 u176 u177 u178 u179 u180 u181 u182 u183 u184 u185 u186 u187 u188 u189 u190 u191 u192 u193 u194 u195 : Value) :
    jcodeA.wp Tryz.prog (bodyPost Tryz.prog Tryz.f14 (fun e w' => joinQ X e w' ∧ New w w')) ⟨#[x0, x1, .pointer (some ⟨w.heap.size, 0, none⟩), .pointer (some ⟨w.heap.size + 1, 0, none⟩), .pointer (some ⟨w.heap.size + 1 + 1, 0, none⟩), .int .i64 0, .bool true, .pointer (some ⟨O, 0, none⟩), u8, u9, u10, u11, u12, u13, u14, u15, u16, u17, u18, u19, u20, u21, u22, u23, u24, u25, u26, u27, u28, u29, u30, u31, u32, u33, u34, u35, u36, u37, u38, u39, u40, u41, u42, u43, u44, u45, u46, u47, u48, u49, u50, u51, u52, u53, u54, u55, u56, u57, u58, u59, u60, u61, u62, u63, u64, u65, u66, u67, u68, u69, u70, u71, u72, u73, u74, u75, u76, u77, u78, u79, u80, u81, u82, u83, u84, u85, u86, u87, u88, u89, u90, u91, u92, u93, u94, u95, u96, u97, u98, u99, u100, u101, u102, u103, u104, u105, u106, u107, u108, u109, u110, u111, u112, u113, u114, u115, u116, u117, u118, u119, u120, u121, u122, u123, u124, u125, u126, u127, u128, u129, u130, u131, u132, u133, u134, u135, u136, u137, u138, u139, u140, u141, u142, u143, u144, u145, u146, u147, u148, u149, u150, u151, u152, u153, u154, u155, u156, u157, u158, u159, u160, u161, u162, u163, u164, u165, u166, u167, u168, u169, u170, u171, u172, u173, u174, u175, u176, u177, u178, u179, u180, u181, u182, u183, u184, u185, u186, u187, u188, u189, u190, u191, u192, u193, u194, u195], []⟩ W := by
  have hv : validMg J = !decide (10 < J.tr.length ∨ 10 < J.ws.length ∨ 20 < J.pe.length) := by
    rw [hJ, join_valid hoka hokb, Bool.eq_iff_iff]
    simp only [Bool.and_eq_true, decide_eq_true_iff, Bool.not_eq_true', decide_eq_false_iff_not]
    omega
  have hs : ∀ x ∈ J.pe, x.ip.size ≤ maxLen := fun x hx => by
    rw [hJ] at hx
    rcases List.mem_append.1 (mem_onceL.1 hx) with e | e
    · exact h.pe.small x e
    · exact k.pe.small x e
  have HO := hid (show J.old = topJ a.old b.old by rw [hJ]; rfl)
  have HN := hid (show J.new = topJ a.new b.new by rw [hJ]; rfl)
  have HM := hid (show J.name = topJ a.name b.name by rw [hJ]; rfl)
  have HC := hid (fun W J1 J3 J5 => jtailB a b p q w W X J O v3 v5 h k hp hq hoka hokb (by rw [hJ]; rfl) (by rw [hJ]; rfl) hX hv J1 J3 n3 J5 n5 hs)
  obtain ⟨ta, tc, pa, pc, sa, sc, oa, oc⟩ := p
  obtain ⟨tb, td, pb, pd, sb, sd, ob, od⟩ := q
  have A0 := hid (show JA w W a b ⟨ta, tc, pa, pc, sa, sc, oa, oc⟩ ⟨tb, td, pb, pd, sb, sd, ob, od⟩ O a.old a.new a.name v3 v5 J from ⟨hT, h3, h5⟩)
  have NE3 := hid n3; have NE5 := hid n5
  clear hv hs h k hp hq hoka hokb hJ hX hT h3 h5 n3 n5
  generalize hF : Tryz.f14 = F
  delta jcodeA
  dsimp only [Tryz.f14]
  subst hF
  have o0 : W.cell? ⟨O, 0, none⟩ = some (.string a.old) := A0.out.t.bO.cellv 0 rfl
  have y0 : W.cell? ⟨w.heap.size + 1, 0, none⟩ = some (.string b.old) := A0.out.t.bB.cellv 0 rfl
  have ol := A0.out.t.bO.lt; have of := A0.out.t.bO.frz 0
  obtain ⟨B, hB⟩ : ∃ B, B = decide (a.old.size = 0) := ⟨_, rfl⟩
  go_upto_region 7 with fail
  go_cut [106] (fun s wx => s = .bool B ∧ W = wx)
  case first =>
    by_cases hn : a.old.size = 0
    · obtain ⟨x1, x2, x3, -⟩ := strE hn
      have HB := hid (show B = true by rw [hB, decide_eq_true hn])
      clear hn hB
      go_wp2
      go_meet
      exact ⟨by rw [HB.out] <;> rfl, rfl⟩
    · obtain ⟨x1, x2, x3, -⟩ := strN hn
      have HB := hid (show B = false by rw [hB, decide_eq_false hn])
      clear hn hB
      go_wp2
      go_meet
      exact ⟨by rw [HB.out] <;> rfl, rfl⟩
  case rest =>
    obtain ⟨rfl, rfl⟩ := hcut
    go_upto_if 106 with fail
    go_cut [] (fun wx => JA w wx a b ⟨ta, tc, pa, pc, sa, sc, oa, oc⟩ ⟨tb, td, pb, pd, sb, sd, ob, od⟩ O (topJ a.old b.old) (a.new) (a.name) v3 v5 J)
    case first =>
      cases B with
      | true =>
        have HE := hid (topJ_no (y := b.old) (of_decide_eq_true hB.symm))
        clear hB
        go_wp2
        go_meet
        rw [HE.out]
        exact A0.out.put NE3.out NE5.out 0 _ rfl
      | false =>
        have HE := hid (topJ_yes (y := b.old) (of_decide_eq_false hB.symm))
        clear hB
        go_wp2
        go_meet
        rw [HE.out]
        exact A0.out
    case rest =>
      have A1 := hid hcut
      clear hcut o0 y0 ol of hB A0
      rename World => w1
      have o1 : w1.cell? ⟨O, 1, none⟩ = some (.string a.new) := A1.out.t.bO.cellv 1 rfl
      have y1 : w1.cell? ⟨w.heap.size + 1, 1, none⟩ = some (.string b.new) := A1.out.t.bB.cellv 1 rfl
      have ol := A1.out.t.bO.lt; have of := A1.out.t.bO.frz 1
      obtain ⟨B, hB⟩ : ∃ B, B = decide (a.new.size = 0) := ⟨_, rfl⟩
      go_upto_region 9 with fail
      go_cut [112] (fun s wx => s = .bool B ∧ w1 = wx)
      case first =>
        by_cases hn : a.new.size = 0
        · obtain ⟨x1, x2, x3, -⟩ := strE hn
          have HB := hid (show B = true by rw [hB, decide_eq_true hn])
          clear hn hB
          go_wp2
          go_meet
          exact ⟨by rw [HB.out] <;> rfl, rfl⟩
        · obtain ⟨x1, x2, x3, -⟩ := strN hn
          have HB := hid (show B = false by rw [hB, decide_eq_false hn])
          clear hn hB
          go_wp2
          go_meet
          exact ⟨by rw [HB.out] <;> rfl, rfl⟩
      case rest =>
        obtain ⟨rfl, rfl⟩ := hcut
        go_upto_if 112 with fail
        go_cut [] (fun wx => JA w wx a b ⟨ta, tc, pa, pc, sa, sc, oa, oc⟩ ⟨tb, td, pb, pd, sb, sd, ob, od⟩ O (topJ a.old b.old) (topJ a.new b.new) (a.name) v3 v5 J)
        case first =>
          cases B with
          | true =>
            have HE := hid (topJ_no (y := b.new) (of_decide_eq_true hB.symm))
            clear hB
            go_wp2
            go_meet
            rw [HE.out]
            exact A1.out.put NE3.out NE5.out 1 _ rfl
          | false =>
            have HE := hid (topJ_yes (y := b.new) (of_decide_eq_false hB.symm))
            clear hB
            go_wp2
            go_meet
            rw [HE.out]
            exact A1.out
        case rest =>
          have A2 := hid hcut
          clear hcut o1 y1 ol of hB A1
          rename World => w2
          have o2 : w2.cell? ⟨O, 2, none⟩ = some (.string a.name) := A2.out.t.bO.cellv 2 rfl
          have y2 : w2.cell? ⟨w.heap.size + 1, 2, none⟩ = some (.string b.name) := A2.out.t.bB.cellv 2 rfl
          have ol := A2.out.t.bO.lt; have of := A2.out.t.bO.frz 2
          obtain ⟨B, hB⟩ : ∃ B, B = decide (a.name.size = 0) := ⟨_, rfl⟩
          go_upto_region 11 with fail
          go_cut [118] (fun s wx => s = .bool B ∧ w2 = wx)
          case first =>
            by_cases hn : a.name.size = 0
            · obtain ⟨x1, x2, x3, -⟩ := strE hn
              have HB := hid (show B = true by rw [hB, decide_eq_true hn])
              clear hn hB
              go_wp2
              go_meet
              exact ⟨by rw [HB.out] <;> rfl, rfl⟩
            · obtain ⟨x1, x2, x3, -⟩ := strN hn
              have HB := hid (show B = false by rw [hB, decide_eq_false hn])
              clear hn hB
              go_wp2
              go_meet
              exact ⟨by rw [HB.out] <;> rfl, rfl⟩
          case rest =>
            obtain ⟨rfl, rfl⟩ := hcut
            go_upto_if 118 with fail
            go_cut [] (fun wx => JA w wx a b ⟨ta, tc, pa, pc, sa, sc, oa, oc⟩ ⟨tb, td, pb, pd, sb, sd, ob, od⟩ O (topJ a.old b.old) (topJ a.new b.new) (topJ a.name b.name) v3 v5 J)
            case first =>
              cases B with
              | true =>
                have HE := hid (topJ_no (y := b.name) (of_decide_eq_true hB.symm))
                clear hB
                go_wp2
                go_meet
                rw [HE.out]
                exact A2.out.put NE3.out NE5.out 2 _ rfl
              | false =>
                have HE := hid (topJ_yes (y := b.name) (of_decide_eq_false hB.symm))
                clear hB
                go_wp2
                go_meet
                rw [HE.out]
                exact A2.out
            case rest =>
              have A3 := hid hcut
              clear hcut o2 y2 ol of hB A2
              rename World => w3
              rw [← HO.out, ← HN.out, ← HM.out] at A3
              go_step
              exact HC.out w3 A3.out.t A3.out.h3 A3.out.h5 _ _ _ _ _ _ _ _ _ _ _ _ _ _ _ _ _ _ _ _ _ _ _ _ _ _ _ _ _ _ _ _ _ _ _ _ _ _ _ _ _ _ _ _ _ _ _ _ _ _ _ _ _ _ _ _ _ _ _ _ _ _ _ _ _ _ _ _ _ _ _ _ _ _ _ _ _ _ _ _ _ _ _ _ _ _ _ _ _ _ _ _ _ _ _ _ _ _ _ _ _ _ _ _ _ _ _ _ _ _ _ _ _ _ _ _ _ _ _ _ _ _ _ _ _ _ _ _ _ _ _ _ _ _ _ _ _ _ _ _ _ _ _ _ _ _ _ _ _ _ _ _ _ _ _ _ _ _ _ _ _ _ _ _ _ _ _ _ _ _ _ _ _ _ _ _ _ _ _ _ _ _ _ _ _ _ _ _ _ _
end Go.Proofs.YtbgmkplpolgebaaGreatDoor
