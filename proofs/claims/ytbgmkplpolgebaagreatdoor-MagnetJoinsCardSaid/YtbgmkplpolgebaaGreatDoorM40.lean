/-
  Several texts in one, in their build order. Two magnets put together (the reference: Join): the last parts: the places, and what is answered. Conditions as told.
-/
import Derived.Test.YtbgmkplpolgebaaGreatDoorM39
import Derived.Test.YtbgmkplpolgebaaGreatDoorM37
namespace Go.Proofs.YtbgmkplpolgebaaGreatDoor
set_option linter.unusedSimpArgs false
set_option linter.unusedVariables false
open Go.RowKit Go.Shelf

noncomputable def jcodeA : Code := match Tryz.f14.body with
  | some (.seq _ (.seq _ (.seq _ (.seq _ (.seq _ c))))) => c
  | _ => .skip
noncomputable def jcodeB : Code := match jcodeA with
  | .seq _ (.seq _ (.seq _ c)) => c
  | _ => .skip
noncomputable def jcodeC : Code := match jcodeB with
  | .seq _ c => c
  | _ => .skip
noncomputable def jcodeD : Code := match jcodeC with
  | .seq _ c => c
  | _ => .skip
theorem rj_results (tmps : Array Value) (w : World) (p : Nat) (m0 m1 m2 m3 m4 m5 m6 x : Value) (hp : Blk w p #[m0, m1, m2, m3, m4, m5, m6] 27)
    (h2 : tmps.getD 4 undef = .pointer (some ⟨p, 0, none⟩)) (h3 : tmps.getD 5 undef = x) :
    (results Tryz.f14 tmps).run Tryz.prog w = .ok (.tuple #[.agg #[m0, m1, m2, m3, m4, m5, m6], x]) w := by
  have p0 := hp.cellv 0 rfl; have p1 := hp.cellv 1 rfl; have p2 := hp.cellv 2 rfl; have p3 := hp.cellv 3 rfl; have p4 := hp.cellv 4 rfl; have p5 := hp.cellv 5 rfl; have p6 := hp.cellv 6 rfl
  have h2' : tmps[4]?.getD undef = .pointer (some ⟨p, 0, none⟩) := by simpa using h2
  have h3' : tmps[5]?.getD undef = x := by simpa using h3
  simp [results, Tryz.results14, h2', h3', asAddr, go_sem, p0, p1, p2, p3, p4, p5, p6, Result.andThen]
/-- Where the walk of the reference's Join stands. -/
structure JT (w0 W : World) (a b : MgV) (p q : MgP) (O : Nat) (o : Array Value) : Prop where
  bA : Blk W w0.heap.size (magRow a p) 27
  bB : Blk W (w0.heap.size + 1) (magRow b q) 27
  bM : Blk W (w0.heap.size + 1 + 1) zeroMg 27
  bO : Blk W O o 27
  hO : w0.heap.size + 3 ≤ O
  new : New w0 W
theorem JT.next {w0 W W' : World} {a b : MgV} {p q : MgP} {O : Nat} {o : Array Value} (h : JT w0 W a b p q O o) (n : New W W') : JT w0 W' a b p q O o :=
  ⟨New.blk n h.bA, New.blk n h.bB, New.blk n h.bM, New.blk n h.bO, h.hO, h.new.trans n⟩
theorem JT.set {w0 W : World} {a b : MgV} {p q : MgP} {O : Nat} {o : Array Value} (h : JT w0 W a b p q O o) (i : Nat) (v : Value) : JT w0 (W.setCell ⟨O, i, none⟩ v) a b p q O (o.setIfInBounds i v) := by
  have m : Mod (fun j => j = O) W (W.setCell ⟨O, i, none⟩ v) := (Mod.refl _ _).set _ _ (.inl rfl)
  have h2 := h.hO
  exact ⟨m.blk h.bA (by omega), m.blk h.bB (by omega), m.blk h.bM (by omega), h.bO.set i v, h.hO, h.new.trans' m (fun j q1 q2 => by omega)⟩
theorem JT.row {w0 W : World} {a b : MgV} {p q : MgP} {O : Nat} {o o' : Array Value} (h : JT w0 W a b p q O o) (e : o = o') : JT w0 W a b p q O o' := e ▸ h
set_option maxRecDepth 100000 in
set_option maxHeartbeats 16000000 in
theorem jtailD (a b : MgV) (p q : MgP) (w W : World) (X : Except Int MgV) (J : MgV) (O : Nat) (v3 v4 v5 v6 : Value)
    (hX : X = if 10 < J.tr.length ∨ 10 < J.ws.length ∨ 20 < J.pe.length then .error 4 else .ok J)
    (hv : validMg J = !decide (10 < J.tr.length ∨ 10 < J.ws.length ∨ 20 < J.pe.length))
    (hT : JT w W a b p q O #[.string J.old, .string J.new, .string J.name, v3, v4, v5, v6])
    (hL : JL W (w.heap.size + 3) v3 v4 v5 v6 J.tr J.pe J.ws J.on) (hs : ∀ x ∈ J.pe, x.ip.size ≤ maxLen) (x0 x1 u8 u9 u10 u11 u12 u13 u14 u15 u16 u17 u18 u19 u20 u21 u22 u23 u24 u25 u26 u27 u28 u29 u30 u31 u32 u33 u34 u35 u36 u37 u38 u39 u40 u41 u42 u43 u44 u45 u46 u47 u48 u49 u50 u51 u52 u53 u54 u55 u56 u57 u58 u59 u60 u61 u62 u63 u64 u65 u66 u67 u68 u69 u70 u71 u72 u73 u74 u75 u76 u77 u78 u79 u80 u81 u82 u83 u84 u85 u86 u87 u88 u89 u90 u91 u92 u93 u94 u95 u96 u97 u98 u99 u100 u101 u102 u103 u104 u105 u106 u107 u108 u109 u110 u111 u112 u113 u114 u115 u116 u117 u118 u119 u120 u121 u122 u123 u124 u125 u126 u127 u128 u129 u130 u131 u132 u133 u134 u135 u136 u137 u138 u139 u140 u141 u142 u143 u144 u145 u146 u147 u148 u149 u150 u151 u152 u153 u154 u155 u156 u157 u158 u159 u160 u161 u162 u163 u164 u165 u166 u167 u168 u169 u170 u171 u172 u173 u174 u175 u176 u177 u178 u179 u180 u181 u182 u183 u184 u185 u186 u187 u188 u189 u190 u191 u192 u193 u194 u195 : Value) :
    jcodeD.wp Tryz.prog (bodyPost Tryz.prog Tryz.f14 (fun e w' => joinQ X e w' ∧ New w w')) ⟨#[x0, x1, .pointer (some ⟨w.heap.size, 0, none⟩), .pointer (some ⟨w.heap.size + 1, 0, none⟩), .pointer (some ⟨w.heap.size + 1 + 1, 0, none⟩), .int .i64 0, .bool true, .pointer (some ⟨O, 0, none⟩), u8, u9, u10, u11, u12, u13, u14, u15, u16, u17, u18, u19, u20, u21, u22, u23, u24, u25, u26, u27, u28, u29, u30, u31, u32, u33, u34, u35, u36, u37, u38, u39, u40, u41, u42, u43, u44, u45, u46, u47, u48, u49, u50, u51, u52, u53, u54, u55, u56, u57, u58, u59, u60, u61, u62, u63, u64, u65, u66, u67, u68, u69, u70, u71, u72, u73, u74, u75, u76, u77, u78, u79, u80, u81, u82, u83, u84, u85, u86, u87, u88, u89, u90, u91, u92, u93, u94, u95, u96, u97, u98, u99, u100, u101, u102, u103, u104, u105, u106, u107, u108, u109, u110, u111, u112, u113, u114, u115, u116, u117, u118, u119, u120, u121, u122, u123, u124, u125, u126, u127, u128, u129, u130, u131, u132, u133, u134, u135, u136, u137, u138, u139, u140, u141, u142, u143, u144, u145, u146, u147, u148, u149, u150, u151, u152, u153, u154, u155, u156, u157, u158, u159, u160, u161, u162, u163, u164, u165, u166, u167, u168, u169, u170, u171, u172, u173, u174, u175, u176, u177, u178, u179, u180, u181, u182, u183, u184, u185, u186, u187, u188, u189, u190, u191, u192, u193, u194, u195], []⟩ W := by
  obtain ⟨ta, tc, rfl, h1, g1⟩ := hL.t.at4
  obtain ⟨pa, pc, rfl, h2, g2⟩ := hL.p.at4 hs
  obtain ⟨sa, sc, rfl, h3, g3⟩ := hL.s.at4
  obtain ⟨oa, oc, rfl, h4⟩ := hL.o.at2
  have HV := hid (rValid_any J ⟨ta, tc, pa, pc, sa, sc, oa, oc⟩ W ⟨h1, h2, h3, h4⟩)
  rw [hv] at HV
  simp only [magVal, magRow] at HV
  have HT := hid hT; have HL := hid hL; have HS := hid hs
  have o0 := hT.bO.cellv 0 rfl; have o1 := hT.bO.cellv 1 rfl; have o2 := hT.bO.cellv 2 rfl; have o3 := hT.bO.cellv 3 rfl; have o4 := hT.bO.cellv 4 rfl; have o5 := hT.bO.cellv 5 rfl; have o6 := hT.bO.cellv 6 rfl
  clear h1 g1 h2 g2 h3 g3 h4 hv hT hL hs
  generalize hF : Tryz.f14 = F
  delta jcodeD jcodeC jcodeB jcodeA
  dsimp only [Tryz.f14]
  subst hF
  by_cases hbig : 10 < J.tr.length ∨ 10 < J.ws.length ∨ 20 < J.pe.length
  · have HX := hid (show X = .error 4 by rw [hX, if_pos hbig])
    rw [decide_eq_true hbig] at HV
    clear hX hbig
    go_wp2_with fail
    refine HV.out.mono ?_
    rintro e w2 ⟨rfl, n2⟩
    have M2 := hid (New.blk n2 HT.out.bM); have N2 := hid (HT.out.new.trans n2)
    clear n2 o0 o1 o2 o3 o4 o5 o6
    have m0 := M2.out.cellv 0 rfl; have m1 := M2.out.cellv 1 rfl; have m2 := M2.out.cellv 2 rfl; have m3 := M2.out.cellv 3 rfl
    have m4 := M2.out.cellv 4 rfl; have m5 := M2.out.cellv 5 rfl; have m6 := M2.out.cellv 6 rfl
    have ml := M2.out.lt
    have mf := M2.out.frz
    go_wp2
    refine bodyPost_ret (v := .tuple #[mag0V, .int .i64 4]) ?_ rfl ⟨by rw [HX.out]; rfl, ?_⟩
    · refine rj_results _ _ (w.heap.size + 1 + 1) _ _ _ _ _ _ _ _ ?_ rfl rfl
      apply Blk.row
      · repeat (first | with_reducible exact M2.out | (with_reducible apply Blk.newAt; (simp; done)) | with_reducible apply Blk.alloc | with_reducible apply Blk.drew | with_reducible apply Blk.drewN | with_reducible apply Blk.set | (with_reducible apply Blk.other; · first | (simp; done) | (simp; omega) | omega) | (with_reducible apply Blk.putObj; · first | (simp; done) | (simp; omega) | omega))
      · rfl
    · have q := N2.out
      repeat (first | with_reducible exact q | with_reducible refine Mod.alloc ?_ _ | with_reducible refine Mod.drew ?_ | with_reducible refine Mod.drewN ?_ _ | (with_reducible refine Mod.set ?_ _ _ (by first | exact .inl rfl | (right; omega) | (right; simp; done) | (right; simp; omega) | (left; omega) | (left; simp; done) | (left; simp; omega))) | (with_reducible refine Mod.putObj ?_ _ _ (by first | exact .inl rfl | (right; omega) | (right; simp; done) | (right; simp; omega) | (left; omega) | (left; simp; done) | (left; simp; omega))))
      all_goals exact Mod.refl _ _
  · have HX := hid (show X = .ok J by rw [hX, if_neg hbig])
    rw [decide_eq_false hbig] at HV
    clear hX hbig
    go_wp2_with fail
    refine HV.out.mono ?_
    rintro e w2 ⟨rfl, n2⟩
    have M2 := hid (New.blk n2 HT.out.bM); have N2 := hid (HT.out.new.trans n2); have L2 := hid (HL.out.next n2); have B2 := hid (New.blk n2 HT.out.bO)
    clear n2 o0 o1 o2 o3 o4 o5 o6
    have o0 := B2.out.cellv 0 rfl; have o1 := B2.out.cellv 1 rfl; have o2 := B2.out.cellv 2 rfl; have o3 := B2.out.cellv 3 rfl; have o4 := B2.out.cellv 4 rfl; have o5 := B2.out.cellv 5 rfl; have o6 := B2.out.cellv 6 rfl
    have m0 := M2.out.cellv 0 rfl; have m1 := M2.out.cellv 1 rfl; have m2 := M2.out.cellv 2 rfl; have m3 := M2.out.cellv 3 rfl
    have m4 := M2.out.cellv 4 rfl; have m5 := M2.out.cellv 5 rfl; have m6 := M2.out.cellv 6 rfl
    have ml := M2.out.lt
    have mf := M2.out.frz
    go_wp2
    refine name_worldA (p := fun W => bodyPost _ _ _ _ _ W) (fun WF hWF => ?_)
    have MF : Mod (fun j => j < w.heap.size + 3) w2 WF := by
      rw [hWF]
      repeat (first | with_reducible exact Mod.refl _ w2 | with_reducible refine Mod.alloc ?_ _ | with_reducible refine Mod.drew ?_ | with_reducible refine Mod.drewN ?_ _ | (with_reducible refine Mod.set ?_ _ _ (by first | exact .inl rfl | (right; omega) | (right; simp; done) | (right; simp; omega) | (left; omega) | (left; simp; done) | (left; simp; omega))) | (with_reducible refine Mod.putObj ?_ _ _ (by first | exact .inl rfl | (right; omega) | (right; simp; done) | (right; simp; omega) | (left; omega) | (left; simp; done) | (left; simp; omega))))
    obtain ⟨P, hP, ha, ht⟩ := (L2.out.mod MF).at' HS.out
    refine bodyPost_ret (v := .tuple #[magVal J P, .int .i64 0]) ?_ rfl ⟨by rw [HX.out]; exact ⟨P, rfl, ha, ht⟩, ?_⟩
    · rw [← hP]
      refine rj_results _ _ (w.heap.size + 1 + 1) _ _ _ _ _ _ _ _ ?_ rfl rfl
      rw [hWF]
      apply Blk.row
      · repeat (first | with_reducible exact M2.out | (with_reducible apply Blk.newAt; (simp; done)) | with_reducible apply Blk.alloc | with_reducible apply Blk.drew | with_reducible apply Blk.drewN | with_reducible apply Blk.set | (with_reducible apply Blk.other; · first | (simp; done) | (simp; omega) | omega) | (with_reducible apply Blk.putObj; · first | (simp; done) | (simp; omega) | omega))
      · rfl
    · have q := N2.out
      rw [hWF]
      repeat (first | with_reducible exact q | with_reducible refine Mod.alloc ?_ _ | with_reducible refine Mod.drew ?_ | with_reducible refine Mod.drewN ?_ _ | (with_reducible refine Mod.set ?_ _ _ (by first | exact .inl rfl | (right; omega) | (right; simp; done) | (right; simp; omega) | (left; omega) | (left; simp; done) | (left; simp; omega))) | (with_reducible refine Mod.putObj ?_ _ _ (by first | exact .inl rfl | (right; omega) | (right; simp; done) | (right; simp; omega) | (left; omega) | (left; simp; done) | (left; simp; omega))))
set_option maxRecDepth 100000 in
set_option maxHeartbeats 16000000 in
theorem jtailC (a b : MgV) (p q : MgP) (w W : World) (X : Except Int MgV) (J : MgV) (O : Nat) (v3 v4 v5 : Value) (h : MagAt w a p) (k : MagAt w b q) (hoka : VOk a) (hokb : VOk b) (hon : J.on = joinOn a.on b.on)
    (hX : X = if 10 < J.tr.length ∨ 10 < J.ws.length ∨ 20 < J.pe.length then .error 4 else .ok J)
    (hv : validMg J = !decide (10 < J.tr.length ∨ 10 < J.ws.length ∨ 20 < J.pe.length))
    (hT : JT w W a b p q O #[.string J.old, .string J.new, .string J.name, v3, v4, v5, .slice none 0 0])
    (hL : JL W (w.heap.size + 3) v3 v4 v5 (.slice none 0 0) J.tr J.pe J.ws []) (n3 : v3.ownBlock ≠ some O) (n4 : v4.ownBlock ≠ some O) (n5 : v5.ownBlock ≠ some O)
    (hs : ∀ x ∈ J.pe, x.ip.size ≤ maxLen) (x0 x1 u8 u9 u10 u11 u12 u13 u14 u15 u16 u17 u18 u19 u20 u21 u22 u23 u24 u25 u26 u27 u28 u29 u30 u31 u32 u33 u34 u35 u36 u37 u38 u39 u40 u41 u42 u43 u44 u45 u46 u47 u48 u49 u50 u51 u52 u53 u54 u55 u56 u57 u58 u59 u60 u61 u62 u63 u64 u65 u66 u67 u68 u69 u70 u71 u72 u73 u74 u75 u76 u77 u78 u79 u80 u81 u82 u83 u84 u85 u86 u87 u88 u89 u90 u91 u92 u93 u94 u95 u96 u97 u98 u99 u100 u101 u102 u103 u104 u105 u106 u107 u108 u109 u110 u111 u112 u113 u114 u115 u116 u117 u118 u119 u120 u121 u122 u123 u124 u125 u126 u127 u128 u129 u130 u131 u132 u133 u134 u135 u136 u137 u138 u139 u140 u141 u142 u143 u144 u145 u146 u147 u148 u149 u150 u151 u152 u153 u154 u155 u156 u157 u158 u159 u160 u161 u162 u163 u164 u165 u166 u167 u168 u169 u170 u171 u172 u173 u174 u175 u176 u177 u178 u179 u180 u181 u182 u183 u184 u185 u186 u187 u188 u189 u190 u191 u192 u193 u194 u195 : Value) :
    jcodeC.wp Tryz.prog (bodyPost Tryz.prog Tryz.f14 (fun e w' => joinQ X e w' ∧ New w w')) ⟨#[x0, x1, .pointer (some ⟨w.heap.size, 0, none⟩), .pointer (some ⟨w.heap.size + 1, 0, none⟩), .pointer (some ⟨w.heap.size + 1 + 1, 0, none⟩), .int .i64 0, .bool true, .pointer (some ⟨O, 0, none⟩), u8, u9, u10, u11, u12, u13, u14, u15, u16, u17, u18, u19, u20, u21, u22, u23, u24, u25, u26, u27, u28, u29, u30, u31, u32, u33, u34, u35, u36, u37, u38, u39, u40, u41, u42, u43, u44, u45, u46, u47, u48, u49, u50, u51, u52, u53, u54, u55, u56, u57, u58, u59, u60, u61, u62, u63, u64, u65, u66, u67, u68, u69, u70, u71, u72, u73, u74, u75, u76, u77, u78, u79, u80, u81, u82, u83, u84, u85, u86, u87, u88, u89, u90, u91, u92, u93, u94, u95, u96, u97, u98, u99, u100, u101, u102, u103, u104, u105, u106, u107, u108, u109, u110, u111, u112, u113, u114, u115, u116, u117, u118, u119, u120, u121, u122, u123, u124, u125, u126, u127, u128, u129, u130, u131, u132, u133, u134, u135, u136, u137, u138, u139, u140, u141, u142, u143, u144, u145, u146, u147, u148, u149, u150, u151, u152, u153, u154, u155, u156, u157, u158, u159, u160, u161, u162, u163, u164, u165, u166, u167, u168, u169, u170, u171, u172, u173, u174, u175, u176, u177, u178, u179, u180, u181, u182, u183, u184, u185, u186, u187, u188, u189, u190, u191, u192, u193, u194, u195], []⟩ W := by
  have HJN := hid (show a.on = [] ∨ b.on = [] → J.on = [] from fun e => by rw [hon]; unfold joinOn; rw [if_pos e])
  obtain ⟨S, hS, hfs, -⟩ := onB_field hoka.on
  obtain ⟨T, hTT, hft, -⟩ := onB_field hokb.on
  have HJY := hid (show ¬ (a.on = [] ∨ b.on = []) → J.on = runsF 40 (orL S T) from fun e => by rw [hon]; unfold joinOn; rw [if_neg e, hfs, hft])
  obtain ⟨ta, tc, pa, pc, sa, sc, oa, oc⟩ := p
  obtain ⟨tb, td, pb, pd, sb, sd, ob, od⟩ := q
  have HFA := hid (fun W (n : New w W) => rFrom_any 40 a.on (.slice oa a.on.length oc) W (h.on.new n).runs (by omega))
  have HFB := hid (fun W (n : New w W) => rFrom_any 40 b.on (.slice ob b.on.length od) W (k.on.new n).runs (by omega))
  rw [hfs] at HFA
  rw [hft] at HFB
  have HOR := hid (fun W => rJoin_any 40 (mkB S) (mkB T) W hS hTT (by omega) (by omega))
  rw [show (mkB S).data.toList = S from rfl, show (mkB T).data.toList = T from rfl] at HOR
  have HRU := hid (fun W => rRuns_any 40 (mkB (orL S T)) W (hS.or hTT) (by omega))
  rw [show (mkB (orL S T)).data.toList = orL S T from rfl] at HRU
  have HXV := hid (And.intro hX hv); have HSM := hid hs
  have J0 := hid hT; have L0 := hid hL
  have N3 := hid n3; have N4 := hid n4; have N5 := hid n5
  clear hfs hft hon hX hv hs h k hoka hokb hT hL n3 n4 n5
  generalize hF : Tryz.f14 = F
  delta jcodeC jcodeB jcodeA
  dsimp only [Tryz.f14]
  subst hF
  have xa : W.cell? ⟨w.heap.size, 6, none⟩ = some (.slice oa a.on.length oc) := J0.out.bA.cellv 6 rfl
  have xb : W.cell? ⟨w.heap.size + 1, 6, none⟩ = some (.slice ob b.on.length od) := J0.out.bB.cellv 6 rfl
  obtain ⟨B, hB⟩ : ∃ B : Bool, B = (decide (a.on.length ≠ 0) && decide (b.on.length ≠ 0)) := ⟨_, rfl⟩
  go_upto_region 25 with fail
  go_cut [166] (fun s166 wx => s166 = .bool B ∧ W = wx)
  case first =>
    as_aux_lemma =>
      by_cases ha0 : a.on.length = 0
      · have HB := hid (show B = false by rw [hB, decide_eq_false (p := a.on.length ≠ 0) (fun e => e ha0)]; rfl)
        have hi0 : ¬ (0 : Int) < (a.on.length : Int) := by omega
        clear ha0 hB
        go_wp2
        go_meet
        exact ⟨by rw [HB.out], rfl⟩
      · have hi0 : (0 : Int) < (a.on.length : Int) := by omega
        by_cases hb0 : b.on.length = 0
        · have HB := hid (show B = false by rw [hB, decide_eq_false (p := b.on.length ≠ 0) (fun e => e hb0), Bool.and_false])
          have hi1 : ¬ (0 : Int) < (b.on.length : Int) := by omega
          clear ha0 hb0 hB
          go_wp2
          go_meet
          exact ⟨by rw [HB.out, decide_eq_false (by omega)], rfl⟩
        · have HB := hid (show B = true by rw [hB, decide_eq_true (p := b.on.length ≠ 0) hb0, decide_eq_true (p := a.on.length ≠ 0) ha0]; rfl)
          have hi1 : (0 : Int) < (b.on.length : Int) := by omega
          clear ha0 hb0 hB
          go_wp2
          go_meet
          exact ⟨by rw [HB.out, decide_eq_true (by omega)], rfl⟩
  case rest =>
    obtain ⟨rfl, rfl⟩ := hcut
    go_upto_if 166 with fail
    go_cut [] (fun wx => ∃ v6, JT w wx a b ⟨ta, tc, pa, pc, sa, sc, oa, oc⟩ ⟨tb, td, pb, pd, sb, sd, ob, od⟩ O #[.string J.old, .string J.new, .string J.name, v3, v4, v5, v6] ∧ JL wx (w.heap.size + 3) v3 v4 v5 v6 J.tr J.pe J.ws J.on)
    case first =>
      as_aux_lemma =>
        cases B with
        | false =>
          have HON := hid (HJN.out (by
            rcases Bool.and_eq_false_iff.1 hB.symm with q | q
            · exact .inl (List.eq_nil_of_length_eq_zero (Decidable.not_not.1 (of_decide_eq_false q)))
            · exact .inr (List.eq_nil_of_length_eq_zero (Decidable.not_not.1 (of_decide_eq_false q)))))
          clear hB xa xb
          go_wp2
          go_meet
          exact ⟨_, J0.out, by rw [HON.out]; exact L0.out⟩
        | true =>
          have HON := hid (HJY.out (by
            have q := Bool.and_eq_true_iff.1 hB.symm
            have q1 := of_decide_eq_true q.1
            have q2 := of_decide_eq_true q.2
            exact fun q => q.elim (fun e => q1 (by rw [e]; rfl)) (fun e => q2 (by rw [e]; rfl))))
          clear hB
          go_wp2_with fail
          refine (HFA.out _ J0.out.new).mono ?_
          rintro e w15 ⟨rfl, n15⟩
          simp only [frE]
          have J15 := hid (J0.out.next n15); have L15 := hid (L0.out.next n15)
          have xb : w15.cell? ⟨w.heap.size + 1, 6, none⟩ = some (.slice ob b.on.length od) := J15.out.bB.cellv 6 rfl
          clear n15 xa
          go_wp2_with fail
          refine (HFB.out _ J15.out.new).mono ?_
          rintro e w16 ⟨rfl, n16⟩
          simp only [frE]
          have J16 := hid (J15.out.next n16); have L16 := hid (L15.out.next n16)
          clear n16 xb
          go_wp2_with fail
          refine (HOR.out _).mono ?_
          rintro e w17 ⟨rfl, n17⟩
          have J17 := hid (J16.out.next n17); have L17 := hid (L16.out.next n17)
          clear n17
          go_wp2_with fail
          refine (HRU.out _).mono ?_
          rintro e w18 ⟨v, rfl, ho, n18⟩
          have J18 := hid (J17.out.next n18); have L18 := hid (L17.out.next n18)
          have hD18 : w.heap.size + 3 ≤ w17.heap.size := by have := J17.out.bO.lt; have := J17.out.hO; omega
          have hO17 := J17.out.bO.lt
          have HO := hid ho
          obtain ⟨ya, yc, rfl, -⟩ := OwnR.at2 ho
          clear n18 ho
          have ol := J18.out.bO.lt; have of := J18.out.bO.frz 6; have o6 := J18.out.bO.cellv 6 rfl
          go_wp2
          go_meet
          have m : Mod (fun j => j = O) w18 (w18.setCell ⟨O, 6, none⟩ (.slice ya J.on.length yc)) := (Mod.refl _ _).set _ _ (.inl rfl)
          refine ⟨.slice ya (runsF 40 (orL S T)).length yc, (J18.out.set 6 _).row rfl, ?_⟩
          rw [← HON.out] at HO ⊢
          exact ⟨L18.out.t.mod m (fun j q1 q2 => N3.out (by rw [q1, q2])), L18.out.p.mod m (fun j q1 q2 => N4.out (by rw [q1, q2])), L18.out.s.mod m (fun j q1 q2 => N5.out (by rw [q1, q2])), (HO.out.mod m (fun j q1 q2 q => by omega)).base hD18⟩
    case rest =>
      obtain ⟨v6, hJT, hJL⟩ := hcut
      go_step
      exact jtailD a b _ _ w wc X J O v3 v4 v5 v6 HXV.out.1 HXV.out.2 hJT hJL HSM.out _ _ _ _ _ _ _ _ _ _ _ _ _ _ _ _ _ _ _ _ _ _ _ _ _ _ _ _ _ _ _ _ _ _ _ _ _ _ _ _ _ _ _ _ _ _ _ _ _ _ _ _ _ _ _ _ _ _ _ _ _ _ _ _ _ _ _ _ _ _ _ _ _ _ _ _ _ _ _ _ _ _ _ _ _ _ _ _ _ _ _ _ _ _ _ _ _ _ _ _ _ _ _ _ _ _ _ _ _ _ _ _ _ _ _ _ _ _ _ _ _ _ _ _ _ _ _ _ _ _ _ _ _ _ _ _ _ _ _ _ _ _ _ _ _ _ _ _ _ _ _ _ _ _ _ _ _ _ _ _ _ _ _ _ _ _ _ _ _ _ _ _ _ _ _ _ _ _ _ _ _ _ _ _ _ _ _ _ _ _
end Go.Proofs.YtbgmkplpolgebaaGreatDoor
