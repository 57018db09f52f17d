/-
  Several texts in one, in their build order. The walk of the reference's Cut. Conditions: the list lies as told, its lengths are not below 0 and their sum is at most 65,536; the piece length is one.
-/
import Derived.Test.YtnhgichiedninaaGreatDoorM26
namespace Go.Proofs.YtnhgichiedninaaGreatDoor
set_option linter.unusedSimpArgs false
set_option linter.unusedVariables false
open Go.RowKit Go.Shelf

theorem info_spans : (Tryz.prog.info? 65).map (fun i => (i.zero, i.size, i.bytes)) = some (some (.slice none 0 0), 1, 24) := by kernel_rfl
/-- What the cut keeps: t bytes are cut. -/
structure CutKeep (piece t room : Int) (out : List (List SpanV)) : Prop where
  r0 : 0 ≤ room
  r1 : room ≤ piece
  some' : room = 0 ∨ out ≠ []
  n : (out.length : Int) ≤ t
  m : ∀ S ∈ out, (S.length : Int) ≤ t
theorem CutKeep.more {piece t t' room : Int} {out : List (List SpanV)} (h : CutKeep piece t room out) (ht : t ≤ t') : CutKeep piece t' room out := ⟨h.r0, h.r1, h.some', by have := h.n; omega, fun S hS => by have := h.m S hS; omega⟩
theorem addLast_app (I : List (List SpanV)) (S : List SpanV) (s : SpanV) : addLast (I ++ [S]) s = I ++ [S ++ [s]] := by simp [addLast]
theorem last_form {α : Type} {l : List α} (h : l ≠ []) : ∃ I x, l = I ++ [x] := ⟨l.dropLast, l.getLast h, (List.dropLast_concat_getLast h).symm⟩
theorem CutKeep.step {piece t room n : Int} {I : List (List SpanV)} {S : List SpanV} {s : SpanV} (h : (I.length : Int) + 1 ≤ t + n) (hS : (S.length : Int) + 1 ≤ t + n) (hI : ∀ T ∈ I, (T.length : Int) ≤ t) (r0 : n ≤ room) (r1 : room ≤ piece) (n0 : 0 < n) : CutKeep piece (t + n) (room - n) (I ++ [S ++ [s]]) :=
  ⟨by omega, by omega, .inr (by simp), by simp; omega, fun T hT => by
    rcases List.mem_append.1 hT with hT | hT
    · have := hI T hT; omega
    · simp at hT; subst hT; simp; omega⟩

set_option maxRecDepth 100000 in
set_option maxHeartbeats 4000000 in
theorem cut_any (a : Option Addr) (c : Nat) (l : List FileV) (piece : Int) (new : Bool) (w : World) (h : FilesAt w a c l) (hl : l.length ≤ 40) (hf : ∀ f ∈ l, 0 ≤ f.len) (hs : sumOf l ≤ 65536) (p0 : 16 ≤ piece) (p1 : piece ≤ 1024) :
    Calls Tryz.prog 70 #[.slice a l.length c, .int .i64 piece, .bool new] w fun e w' => ∃ v vs, e = .returned v ∧ OwnSS w' w.heap.size v (cutOf l piece new) vs ∧ New w w' := by
  have hm1 := h.room; have hm2 := h.cap
  unfold maxLen at hm2
  obtain ⟨i0, hi, hz0, hz1, hz2⟩ := info_parts info_span
  obtain ⟨i1, hj, hy0, hy1, hy2⟩ := info_parts info_spans
  have HS := hid hs
  obtain ⟨R, hR⟩ : ∃ R, R = cutOf l piece new := ⟨_, rfl⟩
  rw [← hR]
  have HR := hid hR
  clear hR hs
  by_cases hz : 0 < l.length
  · obtain ⟨b1, o1, rfl, hb1, hc1⟩ := h.get hz
    have HC1 := hid hc1
    have HF := hid hf
    clear h hc1 hf
    go_enter Tryz.func70, Tryz.ntmps70
    go_wp2
    go_loopw [16, 7, 8] (fun i o r wr => ∃ (k : Nat) (room : Int) (out : List (List SpanV)) (vs : List Value) (v : Value), i = .int .i64 k ∧ v = o ∧ r = .int .i64 room ∧ k ≤ l.length ∧ cutGo piece new k room out (l.drop k) = R ∧ CutKeep piece (sumOf (l.take k)) room out ∧ OwnSS wr w.heap.size v out vs ∧ New w wr) (fun i _ _ _ => l.length - (intOf i).toNat)
    case atStart => exact ⟨0, 0, [], [], _, rfl, rfl, rfl, by omega, HR.out.symm, ⟨by omega, by omega, .inl rfl, by simp [sumOf], by simp⟩, OwnSS.nil _ _, Mod.refl _ _⟩
    case round =>
      obtain ⟨k, room, out, vs, v, rfl, rfl, rfl, hk, hgo, hkeep, hO, hn⟩ := hrel
      obtain ⟨Wo, rfl⟩ : ∃ Wo, Wo = wr := ⟨_, rfl⟩
      have HN := hid hn
      have HG := hid hgo
      have HO := hid hO
      have hsz := hn.size
      clear hgo hO
      by_cases hlt : k < l.length
      · obtain ⟨pa, pc, g0, g1, g2, -, -⟩ := (HC1.out k hlt).new hn
        clear hn
        have HD := hid (List.drop_eq_getElem_cons hlt)
        have hsn := sum_next hlt
        have hm0 := sum_mono l HF.out k
        have hm1' := sum_mono l HF.out (k + 1)
        have hfl := HF.out _ (List.getElem_mem hlt)
        obtain ⟨f, hfe⟩ : ∃ f, f = l[k] := ⟨_, rfl⟩
        rw [← hfe] at g0 g1 g2 hsn HD hfl
        obtain ⟨B, hB⟩ : ∃ B, B = sumOf (l.take k) := ⟨_, rfl⟩
        rw [hsn] at hm1'
        rw [← hB] at hsn hm0 hm1' hkeep
        have hs2 := HS.out
        have s0 : 0 ≤ B := hm0.1
        have s1 : B + f.len ≤ 65536 := by omega
        have HSN := hid hsn
        have HK := hid hkeep
        clear hfe hB hsn hm0 hm1' hs2 hkeep
        cases new with
        | true =>
          cases hpad : f.pad with
          | true =>
            rw [hpad] at g2
            have HG2 := hid (show cutGo piece true (k + 1) 0 out (l.drop (k + 1)) = R by rw [← HG.out, HD.out]; simp [cutGo, hpad])
            clear hpad
            go_wp2
            exact ⟨⟨k + 1, 0, out, vs, _, by simp, rfl, rfl, by omega, HG2.out, by rw [HSN.out]; exact ⟨by omega, by omega, .inl rfl, by have := HK.out.n; omega, fun S hS => by have := HK.out.m S hS; omega⟩, HO.out.new ((Mod.refl _ _).alloc _), HN.out.alloc _⟩, by simp [intOf]; omega⟩
          | false =>
            have HPD := hid (show f.pad = false from hpad)
            rw [hpad] at g2
            have HPX := HPD
            clear hpad
            have HKEEP : Hid (CutKeep piece (B + 0) 0 out) := ⟨by omega, by omega, .inl rfl, by have := HK.out.n; omega, fun S hS => by have := HK.out.m S hS; omega⟩
            have HC0 := hid (show cutGo piece true (k + 1) (cutFile piece k f.len (f.len.toNat + 1) 0 (0) out).1 (cutFile piece k f.len (f.len.toNat + 1) 0 (0) out).2 (l.drop (k + 1)) = R by
              rw [← HG.out, HD.out]
              simp [cutGo, HPD.out])
            obtain ⟨C, hC⟩ : ∃ C, C = cutFile piece k f.len (f.len.toNat + 1) 0 (0) out := ⟨_, rfl⟩
            rw [← hC] at HC0
            have HCC := hid hC
            clear hC HPD
            go_wp2
            go_loopw [11, 7, 8] (fun x o r wr2 => ∃ (fuel : Nat) (at' room2 : Int) (out2 : List (List SpanV)) (vs2 : List Value) (v2 : Value), x = .int .i64 at' ∧ v2 = o ∧ r = .int .i64 room2 ∧ 0 ≤ at' ∧ at' ≤ f.len ∧ f.len - at' < fuel ∧ cutFile piece k f.len fuel at' room2 out2 = C ∧ CutKeep piece (B + at') room2 out2 ∧ OwnSS wr2 w.heap.size v2 out2 vs2 ∧ New w wr2 ∧ Blk wr2 Wo.heap.size #[.slice pa f.path.length pc, .int .i64 f.len, .bool f.pad] 60) (fun x _ _ _ => (f.len - intOf x).toNat)
            case atStart => exact ⟨f.len.toNat + 1, 0, (0), out, vs, _, rfl, rfl, rfl, by omega, by omega, by omega, HCC.out.symm, HKEEP.out, HO.out.new ((Mod.refl _ _).alloc _), HN.out.alloc _, by first | exact Blk.new _ _ _ | (refine (Blk.new _ _ _).row ?_; rw [HPX.out])⟩
            case round =>
              clear HO HN HG HCC HK
              obtain ⟨fuel, at', room2, out2, vs2, v2, rfl, rfl, rfl, a0, a1, a2, hfu, hkp, hO, hn, hBx⟩ := hrel
              have HN := hid hn
              have HO := hid hO
              have HFU := hid hfu
              have HK := hid hkp
              have HBX := hid hBx
              have hsz2 := hn.size
              obtain ⟨d0, d1, d2, d3, d4⟩ := Blk.file (f := f) (pa := pa) (pc := pc) hBx
              obtain ⟨r0, r1, -, rn, -⟩ := hkp
              clear hn hO hfu hBx
              by_cases hat : at' < f.len
              · obtain ⟨fuel, rfl⟩ : ∃ n, fuel = n + 1 := ⟨fuel - 1, by omega⟩
                by_cases hr : room2 = 0
                · subst hr
                  have hmin : 0 < min piece (f.len - at') := by omega
                  have HFU2 := hid (show cutFile piece k f.len fuel (at' + min piece (f.len - at')) (piece - min piece (f.len - at')) (addLast (out2 ++ [[]]) ⟨k, at', min piece (f.len - at')⟩) = C by
                    rw [← HFU.out]; simp only [cutFile, hat, if_true])
                  clear HFU
                  go_wp2_with (at_builtin; refine wpList_append_own_at _ rfl _ _ 124 rfl w.heap.size 65 i1 _ 1 24 Tryz.underlying124 hj hy0 hy1 hy2 rfl (by decide) v2 out2.length vs2 rfl ?owBa ⟨wr.heap.size, 0, none⟩ 1 1 [.slice none 0 0] rfl rfl ?hnBa ?h1Ba ?h63Ba ?hbyBa ?hbaBa ?_)
                  case owBa => exact (HO.out.new ((Mod.refl _ _).alloc _)).row
                  case hnBa =>
                    intro j u hj
                    rw [add_none]
                    match j, hj with
                    | 0, hj => simp at hj; subst hj; exact (Blk.new wr #[.slice none 0 0] 65).cellv 0 rfl
                  case h1Ba => intro u hu; simp at hu; subst hu; rfl
                  case h63Ba => unfold maxLen; omega
                  case hbyBa => omega
                  case hbaBa => simp; omega
                  intro o3 w3 r3 g3 _ l3
                  obtain ⟨U, hU⟩ : ∃ U : Value, U = .slice none 0 0 := ⟨_, rfl⟩
                  obtain ⟨S0, hS0⟩ : ∃ S0 : List SpanV, S0 = [] := ⟨_, rfl⟩
                  have hS0l : S0.length = 0 := by rw [hS0]; rfl
                  have hO3 := OwnSS.push (HO.out.new ((Mod.refl _ _).alloc _)) r3 g3
                  rw [← hU, ← hS0] at hO3
                  rw [← hS0] at HFU2
                  obtain ⟨G, cap, rfl, hG0, hG1⟩ := World.ownsRow.form r3 (by omega)
                  have hN3 : New w w3 := New.grown (HN.out.alloc _) g3 (fun j hj => (HO.out.row.lt j hj).1)
                  have hB3 : Blk w3 Wo.heap.size #[.slice pa f.path.length pc, .int .i64 f.len, .bool f.pad] 60 := by
                    refine ((HBX.out).alloc _).of_heap (g3.block _ (by have := HBX.out.lt; simp; omega) ?_)
                    exact owns_ne HO.out.row HBX.out (by intro cur q; cases q)
                  have HO3 := hid hO3; have HN3 := hid hN3; have HB3 := hid hB3; have HL := hid hmin
                  have HS0 := hid hS0l
                  have HKP := hid (show CutKeep piece (B + at' + min piece (f.len - at')) (piece - min piece (f.len - at')) (out2 ++ [S0 ++ [⟨k, at', min piece (f.len - at')⟩]]) from CutKeep.step (by omega) (by omega) HK.out.m (by omega) (by omega) hmin)
                  clear hU hS0 hS0l r3 g3 l3 HO HN HBX d0 d1 d2 d3 d4 hG0 hsz2 hmin
                  obtain ⟨d0, d1, d2, d3, d4⟩ := Blk.file (f := f) (pa := pa) (pc := pc) HB3.out
                  have hlenJ : (vs2).length = (out2).length := by have := HO3.out.len; simpa using this
                  have c0 : w3.cell? ⟨G, (out2).length, none⟩ = some (U) := by
                    have := HO3.out.row
                    rw [List.length_append, List.length_singleton] at this
                    rw [World.ownsRow.cellAt this (out2).length (by omega), ← hlenJ]
                    simp
                  have hf0 : w3.frozen? ⟨G, (out2).length, none⟩ = false := by
                    have := HO3.out.row
                    rw [List.length_append, List.length_singleton] at this
                    exact World.ownsRow.frozenAt this _
                  have HU := hid (HO3.out.each (out2).length (S0) (U) (by simp) (by rw [← hlenJ]; simp))
                  have hsz3 := HN3.out.size
                  have hNG : w.heap.size ≤ G := (HO3.out.lt.1 G rfl)
                  have hSm := (show S0.length ≤ 65536 by have := HS0.out; omega)
                  clear hlenJ
                  go_wp2_with (at_builtin; refine wpList_append_own_at _ rfl _ _ 65 rfl w.heap.size 113 i0 _ 3 24 Tryz.underlying65 hi hz0 hz1 hz2 rfl (by decide) (U) (S0).length (spanRow (S0)) rfl ?owBb ⟨w3.heap.size, 0, none⟩ 1 1 (spanCells ⟨k, at', min piece (f.len - at')⟩) rfl rfl ?hnBb ?h1Bb ?h63Bb ?hbyBb ?hbaBb ?_)
                  case owBb => exact owns_mod HU.out ((Mod.refl (fun _ => False) _).alloc _) (fun _ _ q => q)
                  case hnBb =>
                    have := three_new w3 (.int .i64 k) (.int .i64 at') (.int .i64 (min piece (f.len - at'))) 113
                    simpa [spanCells] using this
                  case h1Bb => intro u hu; simp [spanCells] at hu; rcases hu with rfl | rfl | rfl <;> rfl
                  case h63Bb => unfold maxLen; omega
                  case hbyBb => omega
                  case hbaBb => simp; omega
                  intro u4 w4 r4 g4 _ l4
                  have hO4 := OwnSS.last (HO3.out.new ((Mod.refl _ _).alloc _)) r4 g4 (by simpa using l4)
                  obtain ⟨G4, cap4, rfl, hG4, -⟩ := World.ownsRow.form r4 (by omega)
                  have hr1 := World.ownsRow.kept (HO3.out.new ((Mod.refl _ _).alloc (.cells #[.int .i64 k, .int .i64 at', .int .i64 (min piece (f.len - at'))] 113))).row g4 (owns_sep HO3.out.row HU.out (by decide) |>.elim (fun q => .inr (by rw [q]; simp [Value.ownBlock])) (fun q => .inr (fun e => q e.symm)))
                  rw [List.length_append, List.length_singleton] at hr1
                  have hlenJ : (vs2).length = (out2).length := by have := HO3.out.len; simpa using this
                  have z0 : w4.cell? ⟨G, (out2).length, none⟩ = some (U) := by
                    rw [World.ownsRow.cellAt hr1 (out2).length (by omega), ← hlenJ]
                    simp
                  have z1 : w4.frozen? ⟨G, (out2).length, none⟩ = false := World.ownsRow.frozenAt hr1 _
                  have z2 : G < w4.heap.size := (World.ownsRow.lt hr1 G rfl).2
                  have hN4 : New w w4 := New.grown (HN3.out.alloc _) g4 (fun j hj => HO3.out.lt.2 (U) (by simp) j hj)
                  have hb3 := HB3.out
                  have hB4 : Blk w4 Wo.heap.size #[.slice pa f.path.length pc, .int .i64 f.len, .bool f.pad] 60 := by
                    refine (HB3.out.alloc _).of_heap (g4.block _ (by have := HB3.out.lt; simp; omega) ?_)
                    exact owns_ne HU.out HB3.out (by intro cur q; cases q)
                  have hGW : Wo.heap.size ≠ G := fun q => owns_ne HO3.out.row HB3.out (by intro cur q; cases q) (by rw [q]; rfl)
                  have HO4 := hid hO4; have HN4 := hid hN4; have HB4 := hid hB4; have HGW := hid hGW
                  obtain ⟨d0, d1, d2, d3, d4⟩ := Blk.file (f := f) (pa := pa) (pc := pc) hB4
                  clear hO4 hN4 hB4 hGW hr1 hlenJ hb3 r4 g4 l4 HO3 HN3 HB3 c0 hf0 hsz3 hG4
                  go_wp2
                  exact ⟨⟨fuel, at' + min piece (f.len - at'), piece - min piece (f.len - at'), (out2) ++ [(S0) ++ [⟨k, at', min piece (f.len - at')⟩]], _, _, rfl, rfl, rfl, by omega, by omega, by omega, by rw [← HFU2.out, addLast_app], by rw [← Int.add_assoc]; exact HKP.out, HO4.out, Mod.set HN4.out _ _ (.inr hNG), Blk.other HGW.out HB4.out⟩, by simp [intOf]; omega⟩
                · obtain ⟨I, S0, rfl⟩ := last_form (HK.out.some'.resolve_left hr)
                  obtain ⟨J, U, rfl⟩ := last_form (l := vs2) (by intro q; have := HO.out.len; rw [q] at this; simp at this)
                  have hmin : 0 < min room2 (f.len - at') := by omega
                  have hNN := HO.out.row
                  obtain ⟨G, cap, rfl, hG0, hG1⟩ := World.ownsRow.form hNN (by simp)
                  clear hNN
                  rw [List.length_append, List.length_singleton] at rn ⊢
                  obtain ⟨w3, rfl⟩ : ∃ w3, w3 = wr := ⟨_, rfl⟩
                  have HFU2 := hid (show cutFile piece k f.len fuel (at' + min room2 (f.len - at')) (room2 - min room2 (f.len - at')) (addLast (I ++ [S0]) ⟨k, at', min room2 (f.len - at')⟩) = C by
                    rw [← HFU.out]; simp only [cutFile, hat, hr, if_true, if_false])
                  have hSb := HK.out.m S0 (by simp)
                  have HKP := hid (show CutKeep piece (B + at' + min room2 (f.len - at')) (room2 - min room2 (f.len - at')) (I ++ [S0 ++ [⟨k, at', min room2 (f.len - at')⟩]]) from CutKeep.step (by omega) (by omega) (fun T hT => HK.out.m T (List.mem_append_left _ hT)) (by omega) (by omega) hmin)
                  have HSB := hid (show S0.length ≤ 65536 by omega)
                  have hO3 := HO.out
                  rw [List.length_append, List.length_singleton] at hO3
                  have HO3 := hid hO3; have HN3 := HN; have HB3 := HBX; have HL := hid hmin
                  clear hO3
                  clear HFU HK HO HN HBX d0 d1 d2 d3 d4 hG0 hsz2 hmin hSb
                  obtain ⟨d0, d1, d2, d3, d4⟩ := Blk.file (f := f) (pa := pa) (pc := pc) HB3.out
                  have hlenJ : (J).length = (I).length := by have := HO3.out.len; simpa using this
                  have c0 : w3.cell? ⟨G, (I).length, none⟩ = some (U) := by
                    have := HO3.out.row
                    rw [List.length_append, List.length_singleton] at this
                    rw [World.ownsRow.cellAt this (I).length (by omega), ← hlenJ]
                    simp
                  have hf0 : w3.frozen? ⟨G, (I).length, none⟩ = false := by
                    have := HO3.out.row
                    rw [List.length_append, List.length_singleton] at this
                    exact World.ownsRow.frozenAt this _
                  have HU := hid (HO3.out.each (I).length (S0) (U) (by simp) (by rw [← hlenJ]; simp))
                  have hsz3 := HN3.out.size
                  have hNG : w.heap.size ≤ G := (HO3.out.lt.1 G rfl)
                  have hSm := HSB.out
                  clear hlenJ
                  go_wp2_with (at_builtin; refine wpList_append_own_at _ rfl _ _ 65 rfl w.heap.size 113 i0 _ 3 24 Tryz.underlying65 hi hz0 hz1 hz2 rfl (by decide) (U) (S0).length (spanRow (S0)) rfl ?owBc ⟨w3.heap.size, 0, none⟩ 1 1 (spanCells ⟨k, at', min room2 (f.len - at')⟩) rfl rfl ?hnBc ?h1Bc ?h63Bc ?hbyBc ?hbaBc ?_)
                  case owBc => exact owns_mod HU.out ((Mod.refl (fun _ => False) _).alloc _) (fun _ _ q => q)
                  case hnBc =>
                    have := three_new w3 (.int .i64 k) (.int .i64 at') (.int .i64 (min room2 (f.len - at'))) 113
                    simpa [spanCells] using this
                  case h1Bc => intro u hu; simp [spanCells] at hu; rcases hu with rfl | rfl | rfl <;> rfl
                  case h63Bc => unfold maxLen; omega
                  case hbyBc => omega
                  case hbaBc => simp; omega
                  intro u4 w4 r4 g4 _ l4
                  have hO4 := OwnSS.last (HO3.out.new ((Mod.refl _ _).alloc _)) r4 g4 (by simpa using l4)
                  obtain ⟨G4, cap4, rfl, hG4, -⟩ := World.ownsRow.form r4 (by omega)
                  have hr1 := World.ownsRow.kept (HO3.out.new ((Mod.refl _ _).alloc (.cells #[.int .i64 k, .int .i64 at', .int .i64 (min room2 (f.len - at'))] 113))).row g4 (owns_sep HO3.out.row HU.out (by decide) |>.elim (fun q => .inr (by rw [q]; simp [Value.ownBlock])) (fun q => .inr (fun e => q e.symm)))
                  rw [List.length_append, List.length_singleton] at hr1
                  have hlenJ : (J).length = (I).length := by have := HO3.out.len; simpa using this
                  have z0 : w4.cell? ⟨G, (I).length, none⟩ = some (U) := by
                    rw [World.ownsRow.cellAt hr1 (I).length (by omega), ← hlenJ]
                    simp
                  have z1 : w4.frozen? ⟨G, (I).length, none⟩ = false := World.ownsRow.frozenAt hr1 _
                  have z2 : G < w4.heap.size := (World.ownsRow.lt hr1 G rfl).2
                  have hN4 : New w w4 := New.grown (HN3.out.alloc _) g4 (fun j hj => HO3.out.lt.2 (U) (by simp) j hj)
                  have hb3 := HB3.out
                  have hB4 : Blk w4 Wo.heap.size #[.slice pa f.path.length pc, .int .i64 f.len, .bool f.pad] 60 := by
                    refine (HB3.out.alloc _).of_heap (g4.block _ (by have := HB3.out.lt; simp; omega) ?_)
                    exact owns_ne HU.out HB3.out (by intro cur q; cases q)
                  have hGW : Wo.heap.size ≠ G := fun q => owns_ne HO3.out.row HB3.out (by intro cur q; cases q) (by rw [q]; rfl)
                  have HO4 := hid hO4; have HN4 := hid hN4; have HB4 := hid hB4; have HGW := hid hGW
                  obtain ⟨d0, d1, d2, d3, d4⟩ := Blk.file (f := f) (pa := pa) (pc := pc) hB4
                  clear hO4 hN4 hB4 hGW hr1 hlenJ hb3 r4 g4 l4 HO3 HN3 HB3 c0 hf0 hsz3 hG4
                  go_wp2
                  exact ⟨⟨fuel, at' + min room2 (f.len - at'), room2 - min room2 (f.len - at'), (I) ++ [(S0) ++ [⟨k, at', min room2 (f.len - at')⟩]], _, _, rfl, rfl, rfl, by omega, by omega, by omega, by rw [← HFU2.out, addLast_app], by rw [← Int.add_assoc]; exact HKP.out, HO4.out, Mod.set HN4.out _ _ (.inr hNG), Blk.other HGW.out HB4.out⟩, by simp [intOf]; omega⟩
              · have he : at' = f.len := by omega
                subst he
                have HFU2 := hid (show C = (room2, out2) by
                  rw [← HFU.out]
                  cases fuel <;> simp [cutFile])
                clear HFU
                have HG2 := hid (show cutGo piece true (k + 1) room2 out2 (l.drop (k + 1)) = R by rw [← HC0.out, HFU2.out])
                go_wp2
                exact ⟨⟨k + 1, room2, out2, vs2, _, by simp, rfl, rfl, by omega, HG2.out, by rw [HSN.out]; exact HK.out, HO.out, HN.out⟩, by simp [intOf]; omega⟩
        | false =>
          have HPD := hid (show f.pad = f.pad from rfl)
          have HC0 := hid (show cutGo piece false (k + 1) (cutFile piece k f.len (f.len.toNat + 1) 0 (room) out).1 (cutFile piece k f.len (f.len.toNat + 1) 0 (room) out).2 (l.drop (k + 1)) = R by
            rw [← HG.out, HD.out]
            simp [cutGo, HPD.out])
          obtain ⟨C, hC⟩ : ∃ C, C = cutFile piece k f.len (f.len.toNat + 1) 0 (room) out := ⟨_, rfl⟩
          rw [← hC] at HC0
          have HCC := hid hC
          clear hC HPD
          go_wp2
          go_loopw [11, 7, 8] (fun x o r wr2 => ∃ (fuel : Nat) (at' room2 : Int) (out2 : List (List SpanV)) (vs2 : List Value) (v2 : Value), x = .int .i64 at' ∧ v2 = o ∧ r = .int .i64 room2 ∧ 0 ≤ at' ∧ at' ≤ f.len ∧ f.len - at' < fuel ∧ cutFile piece k f.len fuel at' room2 out2 = C ∧ CutKeep piece (B + at') room2 out2 ∧ OwnSS wr2 w.heap.size v2 out2 vs2 ∧ New w wr2 ∧ Blk wr2 Wo.heap.size #[.slice pa f.path.length pc, .int .i64 f.len, .bool f.pad] 60) (fun x _ _ _ => (f.len - intOf x).toNat)
          case atStart => exact ⟨f.len.toNat + 1, 0, (room), out, vs, _, rfl, rfl, rfl, by omega, by omega, by omega, HCC.out.symm, (HK.out.more (by omega)), HO.out.new ((Mod.refl _ _).alloc _), HN.out.alloc _, by first | exact Blk.new _ _ _ | (refine (Blk.new _ _ _).row ?_; rw [HPX.out])⟩
          case round =>
            clear HO HN HG HCC HK
            obtain ⟨fuel, at', room2, out2, vs2, v2, rfl, rfl, rfl, a0, a1, a2, hfu, hkp, hO, hn, hBx⟩ := hrel
            have HN := hid hn
            have HO := hid hO
            have HFU := hid hfu
            have HK := hid hkp
            have HBX := hid hBx
            have hsz2 := hn.size
            obtain ⟨d0, d1, d2, d3, d4⟩ := Blk.file (f := f) (pa := pa) (pc := pc) hBx
            obtain ⟨r0, r1, -, rn, -⟩ := hkp
            clear hn hO hfu hBx
            by_cases hat : at' < f.len
            · obtain ⟨fuel, rfl⟩ : ∃ n, fuel = n + 1 := ⟨fuel - 1, by omega⟩
              by_cases hr : room2 = 0
              · subst hr
                have hmin : 0 < min piece (f.len - at') := by omega
                have HFU2 := hid (show cutFile piece k f.len fuel (at' + min piece (f.len - at')) (piece - min piece (f.len - at')) (addLast (out2 ++ [[]]) ⟨k, at', min piece (f.len - at')⟩) = C by
                  rw [← HFU.out]; simp only [cutFile, hat, if_true])
                clear HFU
                go_wp2_with (at_builtin; refine wpList_append_own_at _ rfl _ _ 124 rfl w.heap.size 65 i1 _ 1 24 Tryz.underlying124 hj hy0 hy1 hy2 rfl (by decide) v2 out2.length vs2 rfl ?owAa ⟨wr.heap.size, 0, none⟩ 1 1 [.slice none 0 0] rfl rfl ?hnAa ?h1Aa ?h63Aa ?hbyAa ?hbaAa ?_)
                case owAa => exact (HO.out.new ((Mod.refl _ _).alloc _)).row
                case hnAa =>
                  intro j u hj
                  rw [add_none]
                  match j, hj with
                  | 0, hj => simp at hj; subst hj; exact (Blk.new wr #[.slice none 0 0] 65).cellv 0 rfl
                case h1Aa => intro u hu; simp at hu; subst hu; rfl
                case h63Aa => unfold maxLen; omega
                case hbyAa => omega
                case hbaAa => simp; omega
                intro o3 w3 r3 g3 _ l3
                obtain ⟨U, hU⟩ : ∃ U : Value, U = .slice none 0 0 := ⟨_, rfl⟩
                obtain ⟨S0, hS0⟩ : ∃ S0 : List SpanV, S0 = [] := ⟨_, rfl⟩
                have hS0l : S0.length = 0 := by rw [hS0]; rfl
                have hO3 := OwnSS.push (HO.out.new ((Mod.refl _ _).alloc _)) r3 g3
                rw [← hU, ← hS0] at hO3
                rw [← hS0] at HFU2
                obtain ⟨G, cap, rfl, hG0, hG1⟩ := World.ownsRow.form r3 (by omega)
                have hN3 : New w w3 := New.grown (HN.out.alloc _) g3 (fun j hj => (HO.out.row.lt j hj).1)
                have hB3 : Blk w3 Wo.heap.size #[.slice pa f.path.length pc, .int .i64 f.len, .bool f.pad] 60 := by
                  refine ((HBX.out).alloc _).of_heap (g3.block _ (by have := HBX.out.lt; simp; omega) ?_)
                  exact owns_ne HO.out.row HBX.out (by intro cur q; cases q)
                have HO3 := hid hO3; have HN3 := hid hN3; have HB3 := hid hB3; have HL := hid hmin
                have HS0 := hid hS0l
                have HKP := hid (show CutKeep piece (B + at' + min piece (f.len - at')) (piece - min piece (f.len - at')) (out2 ++ [S0 ++ [⟨k, at', min piece (f.len - at')⟩]]) from CutKeep.step (by omega) (by omega) HK.out.m (by omega) (by omega) hmin)
                clear hU hS0 hS0l r3 g3 l3 HO HN HBX d0 d1 d2 d3 d4 hG0 hsz2 hmin
                obtain ⟨d0, d1, d2, d3, d4⟩ := Blk.file (f := f) (pa := pa) (pc := pc) HB3.out
                have hlenJ : (vs2).length = (out2).length := by have := HO3.out.len; simpa using this
                have c0 : w3.cell? ⟨G, (out2).length, none⟩ = some (U) := by
                  have := HO3.out.row
                  rw [List.length_append, List.length_singleton] at this
                  rw [World.ownsRow.cellAt this (out2).length (by omega), ← hlenJ]
                  simp
                have hf0 : w3.frozen? ⟨G, (out2).length, none⟩ = false := by
                  have := HO3.out.row
                  rw [List.length_append, List.length_singleton] at this
                  exact World.ownsRow.frozenAt this _
                have HU := hid (HO3.out.each (out2).length (S0) (U) (by simp) (by rw [← hlenJ]; simp))
                have hsz3 := HN3.out.size
                have hNG : w.heap.size ≤ G := (HO3.out.lt.1 G rfl)
                have hSm := (show S0.length ≤ 65536 by have := HS0.out; omega)
                clear hlenJ
                go_wp2_with (at_builtin; refine wpList_append_own_at _ rfl _ _ 65 rfl w.heap.size 113 i0 _ 3 24 Tryz.underlying65 hi hz0 hz1 hz2 rfl (by decide) (U) (S0).length (spanRow (S0)) rfl ?owAb ⟨w3.heap.size, 0, none⟩ 1 1 (spanCells ⟨k, at', min piece (f.len - at')⟩) rfl rfl ?hnAb ?h1Ab ?h63Ab ?hbyAb ?hbaAb ?_)
                case owAb => exact owns_mod HU.out ((Mod.refl (fun _ => False) _).alloc _) (fun _ _ q => q)
                case hnAb =>
                  have := three_new w3 (.int .i64 k) (.int .i64 at') (.int .i64 (min piece (f.len - at'))) 113
                  simpa [spanCells] using this
                case h1Ab => intro u hu; simp [spanCells] at hu; rcases hu with rfl | rfl | rfl <;> rfl
                case h63Ab => unfold maxLen; omega
                case hbyAb => omega
                case hbaAb => simp; omega
                intro u4 w4 r4 g4 _ l4
                have hO4 := OwnSS.last (HO3.out.new ((Mod.refl _ _).alloc _)) r4 g4 (by simpa using l4)
                obtain ⟨G4, cap4, rfl, hG4, -⟩ := World.ownsRow.form r4 (by omega)
                have hr1 := World.ownsRow.kept (HO3.out.new ((Mod.refl _ _).alloc (.cells #[.int .i64 k, .int .i64 at', .int .i64 (min piece (f.len - at'))] 113))).row g4 (owns_sep HO3.out.row HU.out (by decide) |>.elim (fun q => .inr (by rw [q]; simp [Value.ownBlock])) (fun q => .inr (fun e => q e.symm)))
                rw [List.length_append, List.length_singleton] at hr1
                have hlenJ : (vs2).length = (out2).length := by have := HO3.out.len; simpa using this
                have z0 : w4.cell? ⟨G, (out2).length, none⟩ = some (U) := by
                  rw [World.ownsRow.cellAt hr1 (out2).length (by omega), ← hlenJ]
                  simp
                have z1 : w4.frozen? ⟨G, (out2).length, none⟩ = false := World.ownsRow.frozenAt hr1 _
                have z2 : G < w4.heap.size := (World.ownsRow.lt hr1 G rfl).2
                have hN4 : New w w4 := New.grown (HN3.out.alloc _) g4 (fun j hj => HO3.out.lt.2 (U) (by simp) j hj)
                have hb3 := HB3.out
                have hB4 : Blk w4 Wo.heap.size #[.slice pa f.path.length pc, .int .i64 f.len, .bool f.pad] 60 := by
                  refine (HB3.out.alloc _).of_heap (g4.block _ (by have := HB3.out.lt; simp; omega) ?_)
                  exact owns_ne HU.out HB3.out (by intro cur q; cases q)
                have hGW : Wo.heap.size ≠ G := fun q => owns_ne HO3.out.row HB3.out (by intro cur q; cases q) (by rw [q]; rfl)
                have HO4 := hid hO4; have HN4 := hid hN4; have HB4 := hid hB4; have HGW := hid hGW
                obtain ⟨d0, d1, d2, d3, d4⟩ := Blk.file (f := f) (pa := pa) (pc := pc) hB4
                clear hO4 hN4 hB4 hGW hr1 hlenJ hb3 r4 g4 l4 HO3 HN3 HB3 c0 hf0 hsz3 hG4
                go_wp2
                exact ⟨⟨fuel, at' + min piece (f.len - at'), piece - min piece (f.len - at'), (out2) ++ [(S0) ++ [⟨k, at', min piece (f.len - at')⟩]], _, _, rfl, rfl, rfl, by omega, by omega, by omega, by rw [← HFU2.out, addLast_app], by rw [← Int.add_assoc]; exact HKP.out, HO4.out, Mod.set HN4.out _ _ (.inr hNG), Blk.other HGW.out HB4.out⟩, by simp [intOf]; omega⟩
              · obtain ⟨I, S0, rfl⟩ := last_form (HK.out.some'.resolve_left hr)
                obtain ⟨J, U, rfl⟩ := last_form (l := vs2) (by intro q; have := HO.out.len; rw [q] at this; simp at this)
                have hmin : 0 < min room2 (f.len - at') := by omega
                have hNN := HO.out.row
                obtain ⟨G, cap, rfl, hG0, hG1⟩ := World.ownsRow.form hNN (by simp)
                clear hNN
                rw [List.length_append, List.length_singleton] at rn ⊢
                obtain ⟨w3, rfl⟩ : ∃ w3, w3 = wr := ⟨_, rfl⟩
                have HFU2 := hid (show cutFile piece k f.len fuel (at' + min room2 (f.len - at')) (room2 - min room2 (f.len - at')) (addLast (I ++ [S0]) ⟨k, at', min room2 (f.len - at')⟩) = C by
                  rw [← HFU.out]; simp only [cutFile, hat, hr, if_true, if_false])
                have hSb := HK.out.m S0 (by simp)
                have HKP := hid (show CutKeep piece (B + at' + min room2 (f.len - at')) (room2 - min room2 (f.len - at')) (I ++ [S0 ++ [⟨k, at', min room2 (f.len - at')⟩]]) from CutKeep.step (by omega) (by omega) (fun T hT => HK.out.m T (List.mem_append_left _ hT)) (by omega) (by omega) hmin)
                have HSB := hid (show S0.length ≤ 65536 by omega)
                have hO3 := HO.out
                rw [List.length_append, List.length_singleton] at hO3
                have HO3 := hid hO3; have HN3 := HN; have HB3 := HBX; have HL := hid hmin
                clear hO3
                clear HFU HK HO HN HBX d0 d1 d2 d3 d4 hG0 hsz2 hmin hSb
                obtain ⟨d0, d1, d2, d3, d4⟩ := Blk.file (f := f) (pa := pa) (pc := pc) HB3.out
                have hlenJ : (J).length = (I).length := by have := HO3.out.len; simpa using this
                have c0 : w3.cell? ⟨G, (I).length, none⟩ = some (U) := by
                  have := HO3.out.row
                  rw [List.length_append, List.length_singleton] at this
                  rw [World.ownsRow.cellAt this (I).length (by omega), ← hlenJ]
                  simp
                have hf0 : w3.frozen? ⟨G, (I).length, none⟩ = false := by
                  have := HO3.out.row
                  rw [List.length_append, List.length_singleton] at this
                  exact World.ownsRow.frozenAt this _
                have HU := hid (HO3.out.each (I).length (S0) (U) (by simp) (by rw [← hlenJ]; simp))
                have hsz3 := HN3.out.size
                have hNG : w.heap.size ≤ G := (HO3.out.lt.1 G rfl)
                have hSm := HSB.out
                clear hlenJ
                go_wp2_with (at_builtin; refine wpList_append_own_at _ rfl _ _ 65 rfl w.heap.size 113 i0 _ 3 24 Tryz.underlying65 hi hz0 hz1 hz2 rfl (by decide) (U) (S0).length (spanRow (S0)) rfl ?owAc ⟨w3.heap.size, 0, none⟩ 1 1 (spanCells ⟨k, at', min room2 (f.len - at')⟩) rfl rfl ?hnAc ?h1Ac ?h63Ac ?hbyAc ?hbaAc ?_)
                case owAc => exact owns_mod HU.out ((Mod.refl (fun _ => False) _).alloc _) (fun _ _ q => q)
                case hnAc =>
                  have := three_new w3 (.int .i64 k) (.int .i64 at') (.int .i64 (min room2 (f.len - at'))) 113
                  simpa [spanCells] using this
                case h1Ac => intro u hu; simp [spanCells] at hu; rcases hu with rfl | rfl | rfl <;> rfl
                case h63Ac => unfold maxLen; omega
                case hbyAc => omega
                case hbaAc => simp; omega
                intro u4 w4 r4 g4 _ l4
                have hO4 := OwnSS.last (HO3.out.new ((Mod.refl _ _).alloc _)) r4 g4 (by simpa using l4)
                obtain ⟨G4, cap4, rfl, hG4, -⟩ := World.ownsRow.form r4 (by omega)
                have hr1 := World.ownsRow.kept (HO3.out.new ((Mod.refl _ _).alloc (.cells #[.int .i64 k, .int .i64 at', .int .i64 (min room2 (f.len - at'))] 113))).row g4 (owns_sep HO3.out.row HU.out (by decide) |>.elim (fun q => .inr (by rw [q]; simp [Value.ownBlock])) (fun q => .inr (fun e => q e.symm)))
                rw [List.length_append, List.length_singleton] at hr1
                have hlenJ : (J).length = (I).length := by have := HO3.out.len; simpa using this
                have z0 : w4.cell? ⟨G, (I).length, none⟩ = some (U) := by
                  rw [World.ownsRow.cellAt hr1 (I).length (by omega), ← hlenJ]
                  simp
                have z1 : w4.frozen? ⟨G, (I).length, none⟩ = false := World.ownsRow.frozenAt hr1 _
                have z2 : G < w4.heap.size := (World.ownsRow.lt hr1 G rfl).2
                have hN4 : New w w4 := New.grown (HN3.out.alloc _) g4 (fun j hj => HO3.out.lt.2 (U) (by simp) j hj)
                have hb3 := HB3.out
                have hB4 : Blk w4 Wo.heap.size #[.slice pa f.path.length pc, .int .i64 f.len, .bool f.pad] 60 := by
                  refine (HB3.out.alloc _).of_heap (g4.block _ (by have := HB3.out.lt; simp; omega) ?_)
                  exact owns_ne HU.out HB3.out (by intro cur q; cases q)
                have hGW : Wo.heap.size ≠ G := fun q => owns_ne HO3.out.row HB3.out (by intro cur q; cases q) (by rw [q]; rfl)
                have HO4 := hid hO4; have HN4 := hid hN4; have HB4 := hid hB4; have HGW := hid hGW
                obtain ⟨d0, d1, d2, d3, d4⟩ := Blk.file (f := f) (pa := pa) (pc := pc) hB4
                clear hO4 hN4 hB4 hGW hr1 hlenJ hb3 r4 g4 l4 HO3 HN3 HB3 c0 hf0 hsz3 hG4
                go_wp2
                exact ⟨⟨fuel, at' + min room2 (f.len - at'), room2 - min room2 (f.len - at'), (I) ++ [(S0) ++ [⟨k, at', min room2 (f.len - at')⟩]], _, _, rfl, rfl, rfl, by omega, by omega, by omega, by rw [← HFU2.out, addLast_app], by rw [← Int.add_assoc]; exact HKP.out, HO4.out, Mod.set HN4.out _ _ (.inr hNG), Blk.other HGW.out HB4.out⟩, by simp [intOf]; omega⟩
            · have he : at' = f.len := by omega
              subst he
              have HFU2 := hid (show C = (room2, out2) by
                rw [← HFU.out]
                cases fuel <;> simp [cutFile])
              clear HFU
              have HG2 := hid (show cutGo piece false (k + 1) room2 out2 (l.drop (k + 1)) = R by rw [← HC0.out, HFU2.out])
              go_wp2
              exact ⟨⟨k + 1, room2, out2, vs2, _, by simp, rfl, rfl, by omega, HG2.out, by rw [HSN.out]; exact HK.out, HO.out, HN.out⟩, by simp [intOf]; omega⟩
      · have hd : l.drop k = [] := List.drop_of_length_le (by omega)
        rw [hd] at HG
        clear hn hd
        go_wp2
        go_ret
        exact ⟨_, vs, rfl, by rw [← HG.out]; exact HO.out, HN.out⟩
  · obtain rfl : l = [] := List.eq_nil_of_length_eq_zero (by omega)
    have hR : R = [] := HR.out
    clear h hf
    go_enter Tryz.func70, Tryz.ntmps70
    go_wp2
    refine wp_loop_rounds 1 ?_
    rw [rounds_succ]
    go_wp2
    go_ret
    exact ⟨_, [], rfl, by rw [hR]; exact OwnSS.nil _ _, Mod.refl _ _⟩
end Go.Proofs.YtnhgichiedninaaGreatDoor
