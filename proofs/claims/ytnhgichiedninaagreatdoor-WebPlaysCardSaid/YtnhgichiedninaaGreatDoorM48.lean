/-
  Several texts in one, in their build order. The walk of WebPlays. Conditions: the arguments lie as told; the library's table is laid.
-/
import Derived.Test.YtnhgichiedninaaGreatDoorM40
import Derived.Test.YtnhgichiedninaaGreatDoorM47
namespace Go.Proofs.YtnhgichiedninaaGreatDoor.webPlays
set_option linter.unusedSimpArgs false
set_option linter.unusedVariables false
open Go.RowKit Go.Shelf

set_option maxRecDepth 100000 in
set_option maxHeartbeats 16000000 in
theorem law_any (a wa la : Option Addr) (c wc lc : Nat) (urls : List ByteArray) (W : List Bool) (l : List ActV) (run : Int) (w : World) (h : StrsAt w a c urls) (hw : BoolsAt w wa wc W) (hl : ActsAt w la lc l) (ht : Tab w) :
    Calls Tryz.prog 4 #[.slice a urls.length c, .slice wa W.length wc, .int .i64 run, .slice la l.length lc] w fun e w' => e = .returned (.bool true) ∧ New w w' := by
  have hr := h.room; have hc := h.cap; have hwr := hw.room; have hwc := hw.cap; have her := hl.room; have hec := hl.cap
  unfold maxLen at hc hwc hec
  have HLI := hid (light_any a wa la c wc lc urls W l w h hw hl)
  have HAW := hid (fun W' (n : New w W') => awake30_any W' (ht.new n))
  have HH := hid h; have HW := hid hw; have HL := hid hl
  have HFI := hid (fun W' (n : New w W') (q : 0 < W.length ∧ W.length ≤ 4096) => field_any wa wc W W' (hw.new n) q)
  clear h hw hl ht
  by_cases g1 : lightB urls W l = true
  rotate_left
  · rw [show lightB urls W l = false by simpa using g1] at HLI
    clear g1
    go_enter Tryz.func4, Tryz.ntmps4
    go_wp2_with (first | (go_at_call 6; refine HLI.out.mono ?_; rintro e w1 ⟨rfl, n1⟩; have N1 := hid n1; clear n1) | fail)
    refine (HAW.out _ N1.out).mono ?_
    rintro e w99 ⟨rfl, n9⟩
    have N99 := hid n9
    clear n9
    go_wp2
    go_ret
    exact ⟨rfl, (N1.out).trans N99.out⟩
  obtain ⟨l1, l2, l3, l4, l5⟩ := light_facts g1
  have HL5 := hid l5
  rw [g1] at HLI
  clear g1 l5
  by_cases g2 : W.length = 0
  · have hb0 : ((W.length : Int) == 0) = true := by rw [g2]; rfl
    have HG2 := hid g2
    clear g2
    go_enter Tryz.func4, Tryz.ntmps4
    go_wp2_with (first | (go_at_call 6; refine HLI.out.mono ?_; rintro e w1 ⟨rfl, n1⟩; have N1 := hid n1; clear n1) | fail)
    refine (HAW.out _ N1.out).mono ?_
    rintro e w99 ⟨rfl, n9⟩
    have N99 := hid n9
    clear n9
    go_wp2
    go_ret
    exact ⟨rfl, (N1.out).trans N99.out⟩
  have hb0 : ((W.length : Int) == 0) = false := by rw [beq_eq_false_iff_ne]; omega
  have l0 : 0 < W.length := by omega
  clear g2
  obtain ⟨fo, fb⟩ := fieldB_ok W
  have HFO : Hid (FieldOf W.length (⟨(fieldB W).toArray⟩ : ByteArray).data.toList) := hid (by simpa using fo)
  have HFB := hid fb
  have HFO2 := hid fo
  clear fb fo
  have HFI := hid (fun W' (n : New w W') => HFI.out W' n ⟨by omega, by omega⟩)
  obtain ⟨b1, o1, rfl, hb1, hc1⟩ := HW.out.get l0
  clear hc1
  have HRN := hid (fun W' (n : New w W') => rnew_any a c urls b1 o1 wc W run W' (HH.out.new n) (HW.out.new n) ⟨by omega, by omega⟩)
  obtain ⟨E, hE⟩ : ∃ E, E = newE urls run := ⟨_, rfl⟩
  rw [← hE] at HRN
  by_cases g4 : E = 0
  rotate_left
  · have HNE := hid (fun W' (n : New w W') => hE ▸ cnew_no a c urls W.length ⟨(fieldB W).toArray⟩ run W' (HH.out.new n) (by omega) HFO.out (by rw [← hE]; exact g4))
    have hb1 : (E != 0) = true := by rw [bne_iff_ne]; exact g4
    have HG4 := hid g4
    clear hE g4
    go_enter Tryz.func4, Tryz.ntmps4
    go_wp2_with (first | (go_at_call 6; refine HLI.out.mono ?_; rintro e w1 ⟨rfl, n1⟩; have N1 := hid n1; clear n1) | fail)
    refine (HFI.out _ N1.out).mono ?_
    rintro e w2 ⟨rfl, n2⟩
    have N2 := hid (N1.out.trans n2)
    clear n2
    go_wp2_with fail
    refine (HNE.out _ N2.out).mono ?_
    rintro e w3 ⟨rfl, n3⟩
    have N3 := hid (N2.out.trans n3)
    clear n3
    go_wp2_with fail
    refine (HRN.out _ N3.out).mono ?_
    rintro e w4 (⟨-, rfl, n4⟩ | ⟨q, -⟩)
    rotate_left
    · exact absurd q HG4.out
    have N4 := hid (N3.out.trans n4)
    clear n4
    go_wp2_with fail
    refine (HAW.out _ N4.out).mono ?_
    rintro e w99 ⟨rfl, n9⟩
    have N99 := hid n9
    clear n9
    go_wp2
    go_ret
    exact ⟨rfl, (N4.out).trans N99.out⟩
  obtain ⟨v1, v2, v3, v4⟩ := new_ok (hE ▸ g4)
  have HNW := hid (fun W' (n : New w W') => cnew_ok a c urls W.length ⟨(fieldB W).toArray⟩ run W' (HH.out.new n) v1 (by omega) HFO.out v2 v3 v4)
  have HA0 := hid (Alk.start (m := urls.length) v3.1 W (run := run) v2.1)
  have HG4 := hid g4
  clear hE g4 v1 v4
  go_enter Tryz.func4, Tryz.ntmps4
  go_wp2_with (first | (go_at_call 6; refine HLI.out.mono ?_; rintro e w1 ⟨rfl, n1⟩; have N1 := hid n1; clear n1) | fail)
  refine (HFI.out _ N1.out).mono ?_
  rintro e w2 ⟨rfl, n2⟩
  have N2 := hid (N1.out.trans n2)
  clear n2
  go_wp2_with fail
  refine (HNW.out _ N2.out).mono ?_
  rintro e w3 ⟨B, SB, cap, MB, ps, rfl, hC, n3, hT⟩
  have N3 := hid (N2.out.trans n3)
  have HC3 := hid hC
  have HBL := hid hC.below
  have HTC : Hid (∀ k, k < w.heap.size → ¬ CliT B MB ps k) := hid (fun k hk q => hT k (by have := N2.out.size; omega) q)
  clear n3 hC hT
  go_wp2_with fail
  refine (HRN.out _ N3.out).mono ?_
  rintro e w4 (⟨q, -⟩ | ⟨-, R, WB, dc, DB, gc, GB, rfl, hR, n4, hTR⟩)
  · exact absurd HG4.out q
  have N4 := hid (N3.out.trans n4)
  have C4 := hid (HC3.out.new n4)
  have R4 := hid hR
  have HTR : Hid (∀ k, k < w.heap.size → ¬ RefT R WB DB GB k) := hid (fun k hk q => hTR k (by have := N3.out.size; omega) q)
  have HF : Hid (∀ q, RefT R WB DB GB q → q ≠ B ∧ q ≠ SB ∧ q ≠ MB ∧ q ∉ ps) := hid (fun q hq => by
    have h1 : w3.heap.size ≤ q := by
      by_cases h : w3.heap.size ≤ q
      · exact h
      · exact absurd hq (hTR q (by omega))
    exact HBL.out q h1)
  have HCR : Hid (∀ q, CliT B MB ps q → ¬ RefT R WB DB GB q) := hid (fun q a b => by
    obtain ⟨x1, x2, x3, x4⟩ := HF.out q b
    rcases a with a | a | a
    · exact x1 a
    · exact x3 a
    · exact x4 a)
  clear n4 hR hTR
  have hE0 := HG4.out
  subst hE0
  go_wp2_with fail
  go_loopw [13, 75] (fun x y wr => ∃ (NOW : Int) (k : Nat) (cl : CliV) (G : List (Value × Value)) (f : Nat → Option Nat) (r : RefV), x = .int .i64 NOW ∧ y = .int .i64 k ∧ (0 ≤ NOW ∧ NOW ≤ 1000000000) ∧ k ≤ l.length ∧ CliAt wr B SB cap MB ps cl G ∧ GvAt G f ∧ RefAt wr R WB urls.length DB dc GB gc r ∧ Alk k cl f r ∧ New w wr) (fun _ y _ => l.length - (intOf y).toNat)
  case atStart => exact ⟨0, 0, _, [], fun _ => none, _, rfl, rfl, by omega, by omega, C4.out, ⟨by simp, by simp⟩, R4.out, HA0.out, N4.out⟩
  case round =>
    obtain ⟨NOW, k, cl, G, f, r, rfl, rfl, hnow, hk, hc, hg, hrr, ha, hn⟩ := hrel
    have C0 := hid hc; have G0 := hid hg; have R0 := hid hrr; have A0 := hid ha; have N0 := hid hn
    clear hc hg hrr ha C4 R4 HA0 N4 N3 N2 N1 HC3
    by_cases hlt : k < l.length
    rotate_left
    · clear hn
      go_wp2_with fail
      refine (HAW.out _ N0.out).mono ?_
      rintro e w99 ⟨rfl, n9⟩
      have N99 := hid n9
      clear n9
      go_wp2
      go_ret
      exact ⟨rfl, (N0.out).trans N99.out⟩
    obtain ⟨b2, o2, rfl, hb2, hc2⟩ := HL.out.get (by omega)
    obtain ⟨g0, g1, g2, g3, g4⟩ := hc2 k hlt
    have hlx := HL5.out l[k] (List.getElem_mem hlt)
    have g0 := hn.cellv g0; have g1 := hn.cellv g1; have g2 := hn.cellv g2; have g3 := hn.cellv g3; have g4 := hn.cellv g4
    obtain ⟨x, hx⟩ : ∃ x, x = l[k] := ⟨_, rfl⟩
    rw [← hx] at g0 g1 g2 g3 g4 hlx
    obtain ⟨K, LT, WEB, PC, FL⟩ := x
    simp only at g0 g1 g2 g3 g4 hlx
    clear hc2 hn hx
    have HXC := hid (fun q : CliT B MB ps wr.heap.size => by
      obtain ⟨q1, q2, q3, q4⟩ := C0.out.below wr.heap.size (Nat.le_refl _)
      rcases q with q | q | q
      · exact q1 q
      · exact q3 q
      · exact q4 q)
    have HXR := hid (R0.out.below wr.heap.size (Nat.le_refl _))
    have hwX : w.heap.size ≤ wr.heap.size := N0.out.size
    obtain ⟨X, hX⟩ : ∃ X, X = wr.heap.size := ⟨_, rfl⟩
    rw [← hX] at HXC HXR hwX
    have HX := hid hX
    clear hX
    by_cases k12 : K = 1 ∨ K = 2
    · rcases k12 with q | q
      · subst q
        as_aux_lemma =>
          go_wp2_with fail
          obtain ⟨w5, h5⟩ : ∃ w5, w5 = wr.alloc (.cells #[.int .i64 1, .int .i64 LT, .int .i64 WEB, .int .i64 PC, .bool FL] 48) := ⟨_, rfl⟩
          rw [← HX.out]
          rw [← h5]
          have N5 : Hid (New wr w5) := hid (by rw [h5]; exact (Mod.refl _ _).alloc _)
          have X5d : Hid (Blk w5 X #[.int .i64 1, .int .i64 LT, .int .i64 WEB, .int .i64 PC, .bool FL] 48) := hid (by rw [h5]; exact Blk.newAt HX.out)
          have R5d := hid (R0.out.new N5.out)
          clear h5
          obtain ⟨u, v, E, c2, f2, r2, A2, CC, RR⟩ := both_took B SB cap MB ps cl G f R WB urls.length DB dc GB gc r k (NOW + LT) WEB w5 (C0.out.new N5.out) G0.out A0.out
          have HCC := hid CC; have HRR := hid RR
          clear CC RR
          refine HCC.out.mono ?_
          rintro e w6 ⟨rfl, G2, c6, g6, m6⟩
          have C6 := hid c6
          have G6 := hid g6
          have M6 := hid m6
          have X6 := hid (m6.blk X5d.out HXC.out)
          have R6 := hid (R5d.out.mod m6 (fun q a b => HCR.out q b a))
          clear c6 g6 m6
          have x2 := X6.out.cellv 2 rfl; have xl := X6.out.lt
          go_wp2_with fail
          obtain ⟨w6b, h6b⟩ : ∃ w6b, w6b = w6.alloc (.cells #[.int .i64 u, .int .i64 v] 34) := ⟨_, rfl⟩
          rw [← h6b]
          have N6b : Hid (New w6 w6b) := hid (by rw [h6b]; exact (Mod.refl _ _).alloc _)
          have T6 : Hid (Blk w6b w6.heap.size #[.int .i64 u, .int .i64 v] 34) := hid (by rw [h6b]; exact Blk.new _ _ _)
          clear h6b x2 xl
          refine (HRR.out _ (R6.out.new N6b.out)).mono ?_
          rintro e w7 ⟨rfl, r7, m7⟩
          have R7 := hid r7; have M7 := hid m7
          have X7 := hid (m7.blk (New.blk N6b.out X6.out) HXR.out)
          have C7 := hid ((C6.out.new N6b.out).other m7 HF.out)
          have T7 := hid (m7.blk T6.out (R6.out.below w6.heap.size (Nat.le_refl _)))
          clear r7 m7
          have HA7 := hid A2
          have HG7 := G6
          have HAL := hid (fun nw W (n : New w7 W) => alike_any B SB cap MB ps c2 _ f2 R WB urls.length DB dc GB gc r2 _ nw urls.length W (C7.out.new n) (R7.out.new n) HA7.out HF.out (by omega))
          have x0 := X7.out.cellv 0 rfl; have x1 := X7.out.cellv 1 rfl; have xl := X7.out.lt
          have N7 : Hid (New w w7) := hid ((((N0.out.trans N5.out).trans' M6.out (fun q hq e => HTC.out q hq e)).trans N6b.out).trans' M7.out (fun q hq e => HTR.out q hq e))
          have t0 := T7.out.cellv 0 rfl; have t1 := T7.out.cellv 1 rfl; have tl := T7.out.lt
          by_cases hl1 : 0 < LT
          · by_cases hl2 : NOW + LT ≤ 1000000000
            · go_wp2_with fail
              refine (HAL.out _ _ (by first | exact Mod.refl _ _ | exact (Mod.refl _ _).alloc _)).mono ?_
              rintro e w8 ⟨rfl, t8, ht8, c8, r8, m8⟩
              have C8 := hid c8; have R8 := hid r8; have M8 := hid m8; have HT8 := hid ht8
              clear c8 r8 m8 ht8
              have N8 : Hid (New w w8) := hid (by first | exact N7.out.trans' M8.out (fun q hq e => e.elim (HTC.out q hq) (HTR.out q hq)) | exact (N7.out.alloc _).trans' M8.out (fun q hq e => e.elim (HTC.out q hq) (HTR.out q hq)))
              go_wp2
              exact ⟨⟨(NOW + LT), k + 1, _, _, _, _, rfl, by simp, by omega, by omega, C8.out, HG7.out, R8.out, (HA7.out.time HT8.out).mono (by simp), N8.out⟩, by simp [intOf]; omega⟩
            · go_wp2_with fail
              refine (HAL.out _ _ (by first | exact Mod.refl _ _ | exact (Mod.refl _ _).alloc _)).mono ?_
              rintro e w8 ⟨rfl, t8, ht8, c8, r8, m8⟩
              have C8 := hid c8; have R8 := hid r8; have M8 := hid m8; have HT8 := hid ht8
              clear c8 r8 m8 ht8
              have N8 : Hid (New w w8) := hid (by first | exact N7.out.trans' M8.out (fun q hq e => e.elim (HTC.out q hq) (HTR.out q hq)) | exact (N7.out.alloc _).trans' M8.out (fun q hq e => e.elim (HTC.out q hq) (HTR.out q hq)))
              go_wp2
              exact ⟨⟨NOW, k + 1, _, _, _, _, rfl, by simp, by omega, by omega, C8.out, HG7.out, R8.out, (HA7.out.time HT8.out).mono (by simp), N8.out⟩, by simp [intOf]; omega⟩
          · go_wp2_with fail
            refine (HAL.out _ _ (by first | exact Mod.refl _ _ | exact (Mod.refl _ _).alloc _)).mono ?_
            rintro e w8 ⟨rfl, t8, ht8, c8, r8, m8⟩
            have C8 := hid c8; have R8 := hid r8; have M8 := hid m8; have HT8 := hid ht8
            clear c8 r8 m8 ht8
            have N8 : Hid (New w w8) := hid (by first | exact N7.out.trans' M8.out (fun q hq e => e.elim (HTC.out q hq) (HTR.out q hq)) | exact (N7.out.alloc _).trans' M8.out (fun q hq e => e.elim (HTC.out q hq) (HTR.out q hq)))
            go_wp2
            exact ⟨⟨NOW, k + 1, _, _, _, _, rfl, by simp, by omega, by omega, C8.out, HG7.out, R8.out, (HA7.out.time HT8.out).mono (by simp), N8.out⟩, by simp [intOf]; omega⟩
      · subst q
        as_aux_lemma =>
          go_wp2_with fail
          obtain ⟨w5, h5⟩ : ∃ w5, w5 = wr.alloc (.cells #[.int .i64 2, .int .i64 LT, .int .i64 WEB, .int .i64 PC, .bool FL] 48) := ⟨_, rfl⟩
          rw [← HX.out]
          rw [← h5]
          have N5 : Hid (New wr w5) := hid (by rw [h5]; exact (Mod.refl _ _).alloc _)
          have X5d : Hid (Blk w5 X #[.int .i64 2, .int .i64 LT, .int .i64 WEB, .int .i64 PC, .bool FL] 48) := hid (by rw [h5]; exact Blk.newAt HX.out)
          have R5d := hid (R0.out.new N5.out)
          clear h5
          obtain ⟨u, v, E, c2, f2, r2, A2, CC, RR⟩ := both_took B SB cap MB ps cl G f R WB urls.length DB dc GB gc r k (NOW + LT) WEB w5 (C0.out.new N5.out) G0.out A0.out
          have HCC := hid CC; have HRR := hid RR
          clear CC RR
          refine HCC.out.mono ?_
          rintro e w6 ⟨rfl, G2, c6, g6, m6⟩
          have C6 := hid c6
          have G6 := hid g6
          have M6 := hid m6
          have X6 := hid (m6.blk X5d.out HXC.out)
          have R6 := hid (R5d.out.mod m6 (fun q a b => HCR.out q b a))
          clear c6 g6 m6
          have x2 := X6.out.cellv 2 rfl; have xl := X6.out.lt
          go_wp2_with fail
          obtain ⟨w6b, h6b⟩ : ∃ w6b, w6b = w6.alloc (.cells #[.int .i64 u, .int .i64 v] 34) := ⟨_, rfl⟩
          rw [← h6b]
          have N6b : Hid (New w6 w6b) := hid (by rw [h6b]; exact (Mod.refl _ _).alloc _)
          have T6 : Hid (Blk w6b w6.heap.size #[.int .i64 u, .int .i64 v] 34) := hid (by rw [h6b]; exact Blk.new _ _ _)
          clear h6b x2 xl
          refine (HRR.out _ (R6.out.new N6b.out)).mono ?_
          rintro e w7 ⟨rfl, r7, m7⟩
          have R7 := hid r7; have M7 := hid m7
          have X7 := hid (m7.blk (New.blk N6b.out X6.out) HXR.out)
          have C7 := hid ((C6.out.new N6b.out).other m7 HF.out)
          have T7 := hid (m7.blk T6.out (R6.out.below w6.heap.size (Nat.le_refl _)))
          clear r7 m7
          have HA7 := hid A2
          have HG7 := G6
          have HAL := hid (fun nw W (n : New w7 W) => alike_any B SB cap MB ps c2 _ f2 R WB urls.length DB dc GB gc r2 _ nw urls.length W (C7.out.new n) (R7.out.new n) HA7.out HF.out (by omega))
          have x0 := X7.out.cellv 0 rfl; have x1 := X7.out.cellv 1 rfl; have xl := X7.out.lt
          have N7 : Hid (New w w7) := hid ((((N0.out.trans N5.out).trans' M6.out (fun q hq e => HTC.out q hq e)).trans N6b.out).trans' M7.out (fun q hq e => HTR.out q hq e))
          have t0 := T7.out.cellv 0 rfl; have t1 := T7.out.cellv 1 rfl; have tl := T7.out.lt
          by_cases hl1 : 0 < LT
          · by_cases hl2 : NOW + LT ≤ 1000000000
            · go_wp2_with fail
              refine (HAL.out _ _ (by first | exact Mod.refl _ _ | exact (Mod.refl _ _).alloc _)).mono ?_
              rintro e w8 ⟨rfl, t8, ht8, c8, r8, m8⟩
              have C8 := hid c8; have R8 := hid r8; have M8 := hid m8; have HT8 := hid ht8
              clear c8 r8 m8 ht8
              have N8 : Hid (New w w8) := hid (by first | exact N7.out.trans' M8.out (fun q hq e => e.elim (HTC.out q hq) (HTR.out q hq)) | exact (N7.out.alloc _).trans' M8.out (fun q hq e => e.elim (HTC.out q hq) (HTR.out q hq)))
              go_wp2
              exact ⟨⟨(NOW + LT), k + 1, _, _, _, _, rfl, by simp, by omega, by omega, C8.out, HG7.out, R8.out, (HA7.out.time HT8.out).mono (by simp), N8.out⟩, by simp [intOf]; omega⟩
            · go_wp2_with fail
              refine (HAL.out _ _ (by first | exact Mod.refl _ _ | exact (Mod.refl _ _).alloc _)).mono ?_
              rintro e w8 ⟨rfl, t8, ht8, c8, r8, m8⟩
              have C8 := hid c8; have R8 := hid r8; have M8 := hid m8; have HT8 := hid ht8
              clear c8 r8 m8 ht8
              have N8 : Hid (New w w8) := hid (by first | exact N7.out.trans' M8.out (fun q hq e => e.elim (HTC.out q hq) (HTR.out q hq)) | exact (N7.out.alloc _).trans' M8.out (fun q hq e => e.elim (HTC.out q hq) (HTR.out q hq)))
              go_wp2
              exact ⟨⟨NOW, k + 1, _, _, _, _, rfl, by simp, by omega, by omega, C8.out, HG7.out, R8.out, (HA7.out.time HT8.out).mono (by simp), N8.out⟩, by simp [intOf]; omega⟩
          · go_wp2_with fail
            refine (HAL.out _ _ (by first | exact Mod.refl _ _ | exact (Mod.refl _ _).alloc _)).mono ?_
            rintro e w8 ⟨rfl, t8, ht8, c8, r8, m8⟩
            have C8 := hid c8; have R8 := hid r8; have M8 := hid m8; have HT8 := hid ht8
            clear c8 r8 m8 ht8
            have N8 : Hid (New w w8) := hid (by first | exact N7.out.trans' M8.out (fun q hq e => e.elim (HTC.out q hq) (HTR.out q hq)) | exact (N7.out.alloc _).trans' M8.out (fun q hq e => e.elim (HTC.out q hq) (HTR.out q hq)))
            go_wp2
            exact ⟨⟨NOW, k + 1, _, _, _, _, rfl, by simp, by omega, by omega, C8.out, HG7.out, R8.out, (HA7.out.time HT8.out).mono (by simp), N8.out⟩, by simp [intOf]; omega⟩
    by_cases k34 : K = 3 ∨ K = 4
    · rcases k34 with q | q
      · subst q
        as_aux_lemma =>
          go_wp2_with fail
          obtain ⟨w5, h5⟩ : ∃ w5, w5 = wr.alloc (.cells #[.int .i64 3, .int .i64 LT, .int .i64 WEB, .int .i64 PC, .bool FL] 48) := ⟨_, rfl⟩
          rw [← HX.out]
          rw [← h5]
          have N5 : Hid (New wr w5.drew) := hid (by rw [h5]; exact ((Mod.refl _ _).alloc _).drew)
          have X5d : Hid (Blk w5.drew X #[.int .i64 3, .int .i64 LT, .int .i64 WEB, .int .i64 PC, .bool FL] 48) := hid (Blk.drew (by rw [h5]; exact Blk.newAt HX.out))
          have R5d := hid (R0.out.new N5.out)
          clear h5
          obtain ⟨E, c2, f2, r2, A2, CC, RR⟩ := both_failed B SB cap MB ps cl G f R WB urls.length DB dc GB gc r k (NOW + LT) WEB FL w5.drew (C0.out.new N5.out) G0.out A0.out
          have HCC := hid CC; have HRR := hid RR
          clear CC RR
          have x2 := X5d.out.cellv 2 rfl; have x4 := X5d.out.cellv 4 rfl
          refine wp_region_held_drew (S := (fun w' => w'.cell? ⟨X, 2, none⟩ = some (.int .i64 WEB) ∧ w'.cell? ⟨X, 4, none⟩ = some (.bool FL))) (by kernel_rfl) ⟨x2, x4⟩ (fun hHeld => ?_)
          refine wpAnyH_take (i := 0) (v := ?_) (by simp only [List.getElem?_toArray, List.getElem?_cons_succ, List.getElem?_cons_zero]; rfl) (by kernel_rfl) (by kernel_rfl) (by kernel_rfl) (by intro _ _ _ h; exact h) (Or.inl ⟨by rfl, ?_⟩) (by assumption) ?_
          rotate_left
          · intro w hSw
            (try dsimp only at hSw)
            first | (go_simp; done) | (go_simp; with_reducible rfl) | with_reducible rfl
          simp only [Act.put, List.setIfInBounds_toArray, List.set_cons_zero, List.set_cons_succ]
          refine wpAnyH_take (i := 1) (v := ?_) (by simp only [List.getElem?_toArray, List.getElem?_cons_succ, List.getElem?_cons_zero]; rfl) (by kernel_rfl) (by kernel_rfl) (by kernel_rfl) (by intro _ _ _ h; exact h) (Or.inl ⟨by rfl, ?_⟩) (by assumption) ?_
          rotate_left
          · intro w hSw
            (try dsimp only at hSw)
            first | (go_simp; done) | (go_simp; with_reducible rfl) | with_reducible rfl
          simp only [Act.put, List.setIfInBounds_toArray, List.set_cons_zero, List.set_cons_succ]
          refine wpAnyH_take (i := 2) (v := ?_) (by simp only [List.getElem?_toArray, List.getElem?_cons_succ, List.getElem?_cons_zero]; rfl) (by kernel_rfl) (by kernel_rfl) (by kernel_rfl) (by intro _ _ _ h; exact h) (Or.inl ⟨by rfl, ?_⟩) (by assumption) ?_
          rotate_left
          · intro w hSw
            (try dsimp only at hSw)
            first | (go_simp; done) | (go_simp; with_reducible rfl) | with_reducible rfl
          simp only [Act.put, List.setIfInBounds_toArray, List.set_cons_zero, List.set_cons_succ]
          refine wpAnyH_take (i := 3) (v := ?_) (by simp only [List.getElem?_toArray, List.getElem?_cons_succ, List.getElem?_cons_zero]; rfl) (by kernel_rfl) (by kernel_rfl) (by kernel_rfl) (by intro _ _ _ h; exact h) (Or.inl ⟨by rfl, ?_⟩) (by assumption) ?_
          rotate_left
          · intro w hSw
            (try dsimp only at hSw)
            first | (go_simp; done) | (go_simp; with_reducible rfl) | with_reducible rfl
          simp only [Act.put, List.setIfInBounds_toArray, List.set_cons_zero, List.set_cons_succ]
          refine wpAnyH_take (i := 4) (v := ?_) (by simp only [List.getElem?_toArray, List.getElem?_cons_succ, List.getElem?_cons_zero]; rfl) (by kernel_rfl) (by kernel_rfl) (by kernel_rfl) (by intro _ _ _ h; exact h) (Or.inl ⟨by rfl, ?_⟩) (by assumption) ?_
          rotate_left
          · intro w hSw
            (try dsimp only at hSw)
            first | (go_simp; done) | (go_simp; with_reducible rfl) | with_reducible rfl
          simp only [Act.put, List.setIfInBounds_toArray, List.set_cons_zero, List.set_cons_succ]
          refine wpAnyH_take (i := 5) (v := ?_) (by simp only [List.getElem?_toArray, List.getElem?_cons_succ, List.getElem?_cons_zero]; rfl) (by kernel_rfl) (by kernel_rfl) (by kernel_rfl) (by intro _ _ _ h; exact h) (Or.inl ⟨by rfl, ?_⟩) (by assumption) ?_
          rotate_left
          · intro w hSw
            (try dsimp only at hSw)
            first | (go_simp; done) | (go_simp; with_reducible rfl) | with_reducible rfl
          simp only [Act.put, List.setIfInBounds_toArray, List.set_cons_zero, List.set_cons_succ]
          refine wpAnyH_take (i := 7) (v := ?_) (by simp only [List.getElem?_toArray, List.getElem?_cons_succ, List.getElem?_cons_zero]; rfl) (by kernel_rfl) (by kernel_rfl) (by kernel_rfl) (by intro _ _ _ h; exact h) (Or.inl ⟨by rfl, ?_⟩) (by assumption) ?_
          rotate_left
          · intro w hSw
            (try dsimp only at hSw)
            first | (go_simp; done) | (go_simp; with_reducible rfl) | with_reducible rfl
          simp only [Act.put, List.setIfInBounds_toArray, List.set_cons_zero, List.set_cons_succ]
          refine wpAnyH_take (i := 8) (v := ?_) (by simp only [List.getElem?_toArray, List.getElem?_cons_succ, List.getElem?_cons_zero]; rfl) (by kernel_rfl) (by kernel_rfl) (by kernel_rfl) (by intro _ _ _ h; exact h) (Or.inl ⟨by rfl, ?_⟩) (by assumption) ?_
          rotate_left
          · intro w hSw
            (try dsimp only at hSw)
            first | (go_simp; done) | (go_simp; with_reducible rfl) | with_reducible rfl
          simp only [Act.put, List.setIfInBounds_toArray, List.set_cons_zero, List.set_cons_succ]
          refine wpAnyH_take (i := 9) (v := ?_) (by simp only [List.getElem?_toArray, List.getElem?_cons_succ, List.getElem?_cons_zero]; rfl) (by kernel_rfl) (by kernel_rfl) (by kernel_rfl) (by intro _ _ _ h; exact h) (Or.inl ⟨by rfl, ?_⟩) (by assumption) ?_
          rotate_left
          · intro w hSw
            (try dsimp only at hSw)
            first | (go_simp; done) | (go_simp; with_reducible rfl) | with_reducible rfl
          simp only [Act.put, List.setIfInBounds_toArray, List.set_cons_zero, List.set_cons_succ]
          refine wpAnyH_take (i := 10) (v := ?_) (by simp only [List.getElem?_toArray, List.getElem?_cons_succ, List.getElem?_cons_zero]; rfl) (by kernel_rfl) (by kernel_rfl) (by kernel_rfl) (by intro _ _ _ h; exact h) (Or.inl ⟨by rfl, ?_⟩) (by assumption) ?_
          rotate_left
          · intro w hSw
            (try dsimp only at hSw)
            first | (go_simp; done) | (go_simp; with_reducible rfl) | with_reducible rfl
          simp only [Act.put, List.setIfInBounds_toArray, List.set_cons_zero, List.set_cons_succ]
          refine wpAnyH_take (i := 11) (v := ?_) (by simp only [List.getElem?_toArray, List.getElem?_cons_succ, List.getElem?_cons_zero]; rfl) (by kernel_rfl) (by kernel_rfl) (by kernel_rfl) (by intro _ _ _ h; exact h) (Or.inl ⟨by rfl, ?_⟩) (by assumption) ?_
          rotate_left
          · intro w hSw
            (try dsimp only at hSw)
            first | (go_simp; done) | (go_simp; with_reducible rfl) | with_reducible rfl
          simp only [Act.put, List.setIfInBounds_toArray, List.set_cons_zero, List.set_cons_succ]
          refine wpAnyH_take (i := 12) (v := ?_) (by simp only [List.getElem?_toArray, List.getElem?_cons_succ, List.getElem?_cons_zero]; rfl) (by kernel_rfl) (by kernel_rfl) (by kernel_rfl) (by intro _ _ _ h; exact h) (Or.inl ⟨by rfl, ?_⟩) (by assumption) ?_
          rotate_left
          · intro w hSw
            (try dsimp only at hSw)
            first | (go_simp; done) | (go_simp; with_reducible rfl) | with_reducible rfl
          simp only [Act.put, List.setIfInBounds_toArray, List.set_cons_zero, List.set_cons_succ]
          refine wpAnyH_ready (rs := [6]) (by kernel_rfl) (by simp) ?_
          refine AllReadyH.cons rfl (fun K hK => ?_) AllReadyH.nil
          go_simp
          (go_at_call 15; refine HCC.out.mono ?_; rintro e w6 ⟨rfl, G2, c6, g6, m6⟩; have C6 := hid c6; have G6 := hid g6; have M6 := hid m6; have X6 := hid (m6.blk X5d.out HXC.out); have R6 := hid (R5d.out.mod m6 (fun q a b => HCR.out q b a)); clear c6 g6 m6)
          try dsimp only
          refine hK.out _ _ ⟨X6.out.cellv 2 rfl, X6.out.cellv 4 rfl⟩ (fun hHeld6 => ?_)
          clear hK K
          try simp only [Act.put, List.setIfInBounds_toArray, List.set_cons_zero, List.set_cons_succ]
          refine wpAnyH_ready (rs := [13]) (by kernel_rfl) (by simp) ?_
          refine AllReadyH.cons rfl (fun K hK => ?_) AllReadyH.nil
          go_simp
          (go_at_call 16; refine (HRR.out _ R6.out).mono ?_; rintro e w7 ⟨rfl, r7, m7⟩; have R7 := hid r7; have M7 := hid m7; have X7 := hid (m7.blk X6.out HXR.out); have C7 := hid (C6.out.other m7 HF.out); clear r7 m7)
          try dsimp only
          refine hK.out _ _ ⟨X7.out.cellv 2 rfl, X7.out.cellv 4 rfl⟩ (fun hHeld13 => ?_)
          clear hK K
          try simp only [Act.put, List.setIfInBounds_toArray, List.set_cons_zero, List.set_cons_succ]
          refine wpAnyH_take (i := 14) (v := ?_) (by simp only [List.getElem?_toArray, List.getElem?_cons_succ, List.getElem?_cons_zero]; rfl) (by kernel_rfl) (by kernel_rfl) (by kernel_rfl) (by intro _ _ _ h; exact h) (Or.inl ⟨by rfl, ?_⟩) (by assumption) ?_
          rotate_left
          · intro w hSw
            (try dsimp only at hSw)
            first | (go_simp; done) | (go_simp; with_reducible rfl) | with_reducible rfl
          simp only [Act.put, List.setIfInBounds_toArray, List.set_cons_zero, List.set_cons_succ]
          refine wpAnyH_take (i := 15) (v := ?_) (by simp only [List.getElem?_toArray, List.getElem?_cons_succ, List.getElem?_cons_zero]; rfl) (by kernel_rfl) (by kernel_rfl) (by kernel_rfl) (by intro _ _ _ h; exact h) (Or.inl ⟨by rfl, ?_⟩) (by assumption) ?_
          rotate_left
          · intro w hSw
            (try dsimp only at hSw)
            first | (go_simp; done) | (go_simp; with_reducible rfl) | with_reducible rfl
          simp only [Act.put, List.setIfInBounds_toArray, List.set_cons_zero, List.set_cons_succ]
          refine wpAnyH_done (by kernel_rfl) ?_ _
          have HA7 := hid A2
          have HG7 := G6
          have HAL := hid (fun nw W (n : New w7 W) => alike_any B SB cap MB ps c2 _ f2 R WB urls.length DB dc GB gc r2 _ nw urls.length W (C7.out.new n) (R7.out.new n) HA7.out HF.out (by omega))
          have x0 := X7.out.cellv 0 rfl; have x1 := X7.out.cellv 1 rfl; have xl := X7.out.lt
          have N7 : Hid (New w w7) := hid (((N0.out.trans N5.out).trans' M6.out (fun q hq e => HTC.out q hq e)).trans' M7.out (fun q hq e => HTR.out q hq e))
          by_cases hl1 : 0 < LT
          · by_cases hl2 : NOW + LT ≤ 1000000000
            · go_wp2_with fail
              refine (HAL.out _ _ (by first | exact Mod.refl _ _ | exact (Mod.refl _ _).alloc _)).mono ?_
              rintro e w8 ⟨rfl, t8, ht8, c8, r8, m8⟩
              have C8 := hid c8; have R8 := hid r8; have M8 := hid m8; have HT8 := hid ht8
              clear c8 r8 m8 ht8
              have N8 : Hid (New w w8) := hid (by first | exact N7.out.trans' M8.out (fun q hq e => e.elim (HTC.out q hq) (HTR.out q hq)) | exact (N7.out.alloc _).trans' M8.out (fun q hq e => e.elim (HTC.out q hq) (HTR.out q hq)))
              go_wp2
              exact ⟨⟨(NOW + LT), k + 1, _, _, _, _, rfl, by simp, by omega, by omega, C8.out, HG7.out, R8.out, (HA7.out.time HT8.out).mono (by simp), N8.out⟩, by simp [intOf]; omega⟩
            · go_wp2_with fail
              refine (HAL.out _ _ (by first | exact Mod.refl _ _ | exact (Mod.refl _ _).alloc _)).mono ?_
              rintro e w8 ⟨rfl, t8, ht8, c8, r8, m8⟩
              have C8 := hid c8; have R8 := hid r8; have M8 := hid m8; have HT8 := hid ht8
              clear c8 r8 m8 ht8
              have N8 : Hid (New w w8) := hid (by first | exact N7.out.trans' M8.out (fun q hq e => e.elim (HTC.out q hq) (HTR.out q hq)) | exact (N7.out.alloc _).trans' M8.out (fun q hq e => e.elim (HTC.out q hq) (HTR.out q hq)))
              go_wp2
              exact ⟨⟨NOW, k + 1, _, _, _, _, rfl, by simp, by omega, by omega, C8.out, HG7.out, R8.out, (HA7.out.time HT8.out).mono (by simp), N8.out⟩, by simp [intOf]; omega⟩
          · go_wp2_with fail
            refine (HAL.out _ _ (by first | exact Mod.refl _ _ | exact (Mod.refl _ _).alloc _)).mono ?_
            rintro e w8 ⟨rfl, t8, ht8, c8, r8, m8⟩
            have C8 := hid c8; have R8 := hid r8; have M8 := hid m8; have HT8 := hid ht8
            clear c8 r8 m8 ht8
            have N8 : Hid (New w w8) := hid (by first | exact N7.out.trans' M8.out (fun q hq e => e.elim (HTC.out q hq) (HTR.out q hq)) | exact (N7.out.alloc _).trans' M8.out (fun q hq e => e.elim (HTC.out q hq) (HTR.out q hq)))
            go_wp2
            exact ⟨⟨NOW, k + 1, _, _, _, _, rfl, by simp, by omega, by omega, C8.out, HG7.out, R8.out, (HA7.out.time HT8.out).mono (by simp), N8.out⟩, by simp [intOf]; omega⟩
      · subst q
        as_aux_lemma =>
          go_wp2_with fail
          obtain ⟨w5, h5⟩ : ∃ w5, w5 = wr.alloc (.cells #[.int .i64 4, .int .i64 LT, .int .i64 WEB, .int .i64 PC, .bool FL] 48) := ⟨_, rfl⟩
          rw [← HX.out]
          rw [← h5]
          have N5 : Hid (New wr w5.drew) := hid (by rw [h5]; exact ((Mod.refl _ _).alloc _).drew)
          have X5d : Hid (Blk w5.drew X #[.int .i64 4, .int .i64 LT, .int .i64 WEB, .int .i64 PC, .bool FL] 48) := hid (Blk.drew (by rw [h5]; exact Blk.newAt HX.out))
          have R5d := hid (R0.out.new N5.out)
          clear h5
          obtain ⟨E, c2, f2, r2, A2, CC, RR⟩ := both_failed B SB cap MB ps cl G f R WB urls.length DB dc GB gc r k (NOW + LT) WEB FL w5.drew (C0.out.new N5.out) G0.out A0.out
          have HCC := hid CC; have HRR := hid RR
          clear CC RR
          have x2 := X5d.out.cellv 2 rfl; have x4 := X5d.out.cellv 4 rfl
          refine wp_region_held_drew (S := (fun w' => w'.cell? ⟨X, 2, none⟩ = some (.int .i64 WEB) ∧ w'.cell? ⟨X, 4, none⟩ = some (.bool FL))) (by kernel_rfl) ⟨x2, x4⟩ (fun hHeld => ?_)
          refine wpAnyH_take (i := 0) (v := ?_) (by simp only [List.getElem?_toArray, List.getElem?_cons_succ, List.getElem?_cons_zero]; rfl) (by kernel_rfl) (by kernel_rfl) (by kernel_rfl) (by intro _ _ _ h; exact h) (Or.inl ⟨by rfl, ?_⟩) (by assumption) ?_
          rotate_left
          · intro w hSw
            (try dsimp only at hSw)
            first | (go_simp; done) | (go_simp; with_reducible rfl) | with_reducible rfl
          simp only [Act.put, List.setIfInBounds_toArray, List.set_cons_zero, List.set_cons_succ]
          refine wpAnyH_take (i := 1) (v := ?_) (by simp only [List.getElem?_toArray, List.getElem?_cons_succ, List.getElem?_cons_zero]; rfl) (by kernel_rfl) (by kernel_rfl) (by kernel_rfl) (by intro _ _ _ h; exact h) (Or.inl ⟨by rfl, ?_⟩) (by assumption) ?_
          rotate_left
          · intro w hSw
            (try dsimp only at hSw)
            first | (go_simp; done) | (go_simp; with_reducible rfl) | with_reducible rfl
          simp only [Act.put, List.setIfInBounds_toArray, List.set_cons_zero, List.set_cons_succ]
          refine wpAnyH_take (i := 2) (v := ?_) (by simp only [List.getElem?_toArray, List.getElem?_cons_succ, List.getElem?_cons_zero]; rfl) (by kernel_rfl) (by kernel_rfl) (by kernel_rfl) (by intro _ _ _ h; exact h) (Or.inl ⟨by rfl, ?_⟩) (by assumption) ?_
          rotate_left
          · intro w hSw
            (try dsimp only at hSw)
            first | (go_simp; done) | (go_simp; with_reducible rfl) | with_reducible rfl
          simp only [Act.put, List.setIfInBounds_toArray, List.set_cons_zero, List.set_cons_succ]
          refine wpAnyH_take (i := 3) (v := ?_) (by simp only [List.getElem?_toArray, List.getElem?_cons_succ, List.getElem?_cons_zero]; rfl) (by kernel_rfl) (by kernel_rfl) (by kernel_rfl) (by intro _ _ _ h; exact h) (Or.inl ⟨by rfl, ?_⟩) (by assumption) ?_
          rotate_left
          · intro w hSw
            (try dsimp only at hSw)
            first | (go_simp; done) | (go_simp; with_reducible rfl) | with_reducible rfl
          simp only [Act.put, List.setIfInBounds_toArray, List.set_cons_zero, List.set_cons_succ]
          refine wpAnyH_take (i := 4) (v := ?_) (by simp only [List.getElem?_toArray, List.getElem?_cons_succ, List.getElem?_cons_zero]; rfl) (by kernel_rfl) (by kernel_rfl) (by kernel_rfl) (by intro _ _ _ h; exact h) (Or.inl ⟨by rfl, ?_⟩) (by assumption) ?_
          rotate_left
          · intro w hSw
            (try dsimp only at hSw)
            first | (go_simp; done) | (go_simp; with_reducible rfl) | with_reducible rfl
          simp only [Act.put, List.setIfInBounds_toArray, List.set_cons_zero, List.set_cons_succ]
          refine wpAnyH_take (i := 5) (v := ?_) (by simp only [List.getElem?_toArray, List.getElem?_cons_succ, List.getElem?_cons_zero]; rfl) (by kernel_rfl) (by kernel_rfl) (by kernel_rfl) (by intro _ _ _ h; exact h) (Or.inl ⟨by rfl, ?_⟩) (by assumption) ?_
          rotate_left
          · intro w hSw
            (try dsimp only at hSw)
            first | (go_simp; done) | (go_simp; with_reducible rfl) | with_reducible rfl
          simp only [Act.put, List.setIfInBounds_toArray, List.set_cons_zero, List.set_cons_succ]
          refine wpAnyH_take (i := 7) (v := ?_) (by simp only [List.getElem?_toArray, List.getElem?_cons_succ, List.getElem?_cons_zero]; rfl) (by kernel_rfl) (by kernel_rfl) (by kernel_rfl) (by intro _ _ _ h; exact h) (Or.inl ⟨by rfl, ?_⟩) (by assumption) ?_
          rotate_left
          · intro w hSw
            (try dsimp only at hSw)
            first | (go_simp; done) | (go_simp; with_reducible rfl) | with_reducible rfl
          simp only [Act.put, List.setIfInBounds_toArray, List.set_cons_zero, List.set_cons_succ]
          refine wpAnyH_take (i := 8) (v := ?_) (by simp only [List.getElem?_toArray, List.getElem?_cons_succ, List.getElem?_cons_zero]; rfl) (by kernel_rfl) (by kernel_rfl) (by kernel_rfl) (by intro _ _ _ h; exact h) (Or.inl ⟨by rfl, ?_⟩) (by assumption) ?_
          rotate_left
          · intro w hSw
            (try dsimp only at hSw)
            first | (go_simp; done) | (go_simp; with_reducible rfl) | with_reducible rfl
          simp only [Act.put, List.setIfInBounds_toArray, List.set_cons_zero, List.set_cons_succ]
          refine wpAnyH_take (i := 9) (v := ?_) (by simp only [List.getElem?_toArray, List.getElem?_cons_succ, List.getElem?_cons_zero]; rfl) (by kernel_rfl) (by kernel_rfl) (by kernel_rfl) (by intro _ _ _ h; exact h) (Or.inl ⟨by rfl, ?_⟩) (by assumption) ?_
          rotate_left
          · intro w hSw
            (try dsimp only at hSw)
            first | (go_simp; done) | (go_simp; with_reducible rfl) | with_reducible rfl
          simp only [Act.put, List.setIfInBounds_toArray, List.set_cons_zero, List.set_cons_succ]
          refine wpAnyH_take (i := 10) (v := ?_) (by simp only [List.getElem?_toArray, List.getElem?_cons_succ, List.getElem?_cons_zero]; rfl) (by kernel_rfl) (by kernel_rfl) (by kernel_rfl) (by intro _ _ _ h; exact h) (Or.inl ⟨by rfl, ?_⟩) (by assumption) ?_
          rotate_left
          · intro w hSw
            (try dsimp only at hSw)
            first | (go_simp; done) | (go_simp; with_reducible rfl) | with_reducible rfl
          simp only [Act.put, List.setIfInBounds_toArray, List.set_cons_zero, List.set_cons_succ]
          refine wpAnyH_take (i := 11) (v := ?_) (by simp only [List.getElem?_toArray, List.getElem?_cons_succ, List.getElem?_cons_zero]; rfl) (by kernel_rfl) (by kernel_rfl) (by kernel_rfl) (by intro _ _ _ h; exact h) (Or.inl ⟨by rfl, ?_⟩) (by assumption) ?_
          rotate_left
          · intro w hSw
            (try dsimp only at hSw)
            first | (go_simp; done) | (go_simp; with_reducible rfl) | with_reducible rfl
          simp only [Act.put, List.setIfInBounds_toArray, List.set_cons_zero, List.set_cons_succ]
          refine wpAnyH_take (i := 12) (v := ?_) (by simp only [List.getElem?_toArray, List.getElem?_cons_succ, List.getElem?_cons_zero]; rfl) (by kernel_rfl) (by kernel_rfl) (by kernel_rfl) (by intro _ _ _ h; exact h) (Or.inl ⟨by rfl, ?_⟩) (by assumption) ?_
          rotate_left
          · intro w hSw
            (try dsimp only at hSw)
            first | (go_simp; done) | (go_simp; with_reducible rfl) | with_reducible rfl
          simp only [Act.put, List.setIfInBounds_toArray, List.set_cons_zero, List.set_cons_succ]
          refine wpAnyH_ready (rs := [6]) (by kernel_rfl) (by simp) ?_
          refine AllReadyH.cons rfl (fun K hK => ?_) AllReadyH.nil
          go_simp
          (go_at_call 15; refine HCC.out.mono ?_; rintro e w6 ⟨rfl, G2, c6, g6, m6⟩; have C6 := hid c6; have G6 := hid g6; have M6 := hid m6; have X6 := hid (m6.blk X5d.out HXC.out); have R6 := hid (R5d.out.mod m6 (fun q a b => HCR.out q b a)); clear c6 g6 m6)
          try dsimp only
          refine hK.out _ _ ⟨X6.out.cellv 2 rfl, X6.out.cellv 4 rfl⟩ (fun hHeld6 => ?_)
          clear hK K
          try simp only [Act.put, List.setIfInBounds_toArray, List.set_cons_zero, List.set_cons_succ]
          refine wpAnyH_ready (rs := [13]) (by kernel_rfl) (by simp) ?_
          refine AllReadyH.cons rfl (fun K hK => ?_) AllReadyH.nil
          go_simp
          (go_at_call 16; refine (HRR.out _ R6.out).mono ?_; rintro e w7 ⟨rfl, r7, m7⟩; have R7 := hid r7; have M7 := hid m7; have X7 := hid (m7.blk X6.out HXR.out); have C7 := hid (C6.out.other m7 HF.out); clear r7 m7)
          try dsimp only
          refine hK.out _ _ ⟨X7.out.cellv 2 rfl, X7.out.cellv 4 rfl⟩ (fun hHeld13 => ?_)
          clear hK K
          try simp only [Act.put, List.setIfInBounds_toArray, List.set_cons_zero, List.set_cons_succ]
          refine wpAnyH_take (i := 14) (v := ?_) (by simp only [List.getElem?_toArray, List.getElem?_cons_succ, List.getElem?_cons_zero]; rfl) (by kernel_rfl) (by kernel_rfl) (by kernel_rfl) (by intro _ _ _ h; exact h) (Or.inl ⟨by rfl, ?_⟩) (by assumption) ?_
          rotate_left
          · intro w hSw
            (try dsimp only at hSw)
            first | (go_simp; done) | (go_simp; with_reducible rfl) | with_reducible rfl
          simp only [Act.put, List.setIfInBounds_toArray, List.set_cons_zero, List.set_cons_succ]
          refine wpAnyH_take (i := 15) (v := ?_) (by simp only [List.getElem?_toArray, List.getElem?_cons_succ, List.getElem?_cons_zero]; rfl) (by kernel_rfl) (by kernel_rfl) (by kernel_rfl) (by intro _ _ _ h; exact h) (Or.inl ⟨by rfl, ?_⟩) (by assumption) ?_
          rotate_left
          · intro w hSw
            (try dsimp only at hSw)
            first | (go_simp; done) | (go_simp; with_reducible rfl) | with_reducible rfl
          simp only [Act.put, List.setIfInBounds_toArray, List.set_cons_zero, List.set_cons_succ]
          refine wpAnyH_done (by kernel_rfl) ?_ _
          have HA7 := hid A2
          have HG7 := G6
          have HAL := hid (fun nw W (n : New w7 W) => alike_any B SB cap MB ps c2 _ f2 R WB urls.length DB dc GB gc r2 _ nw urls.length W (C7.out.new n) (R7.out.new n) HA7.out HF.out (by omega))
          have x0 := X7.out.cellv 0 rfl; have x1 := X7.out.cellv 1 rfl; have xl := X7.out.lt
          have N7 : Hid (New w w7) := hid (((N0.out.trans N5.out).trans' M6.out (fun q hq e => HTC.out q hq e)).trans' M7.out (fun q hq e => HTR.out q hq e))
          by_cases hl1 : 0 < LT
          · by_cases hl2 : NOW + LT ≤ 1000000000
            · go_wp2_with fail
              refine (HAL.out _ _ (by first | exact Mod.refl _ _ | exact (Mod.refl _ _).alloc _)).mono ?_
              rintro e w8 ⟨rfl, t8, ht8, c8, r8, m8⟩
              have C8 := hid c8; have R8 := hid r8; have M8 := hid m8; have HT8 := hid ht8
              clear c8 r8 m8 ht8
              have N8 : Hid (New w w8) := hid (by first | exact N7.out.trans' M8.out (fun q hq e => e.elim (HTC.out q hq) (HTR.out q hq)) | exact (N7.out.alloc _).trans' M8.out (fun q hq e => e.elim (HTC.out q hq) (HTR.out q hq)))
              go_wp2
              exact ⟨⟨(NOW + LT), k + 1, _, _, _, _, rfl, by simp, by omega, by omega, C8.out, HG7.out, R8.out, (HA7.out.time HT8.out).mono (by simp), N8.out⟩, by simp [intOf]; omega⟩
            · go_wp2_with fail
              refine (HAL.out _ _ (by first | exact Mod.refl _ _ | exact (Mod.refl _ _).alloc _)).mono ?_
              rintro e w8 ⟨rfl, t8, ht8, c8, r8, m8⟩
              have C8 := hid c8; have R8 := hid r8; have M8 := hid m8; have HT8 := hid ht8
              clear c8 r8 m8 ht8
              have N8 : Hid (New w w8) := hid (by first | exact N7.out.trans' M8.out (fun q hq e => e.elim (HTC.out q hq) (HTR.out q hq)) | exact (N7.out.alloc _).trans' M8.out (fun q hq e => e.elim (HTC.out q hq) (HTR.out q hq)))
              go_wp2
              exact ⟨⟨NOW, k + 1, _, _, _, _, rfl, by simp, by omega, by omega, C8.out, HG7.out, R8.out, (HA7.out.time HT8.out).mono (by simp), N8.out⟩, by simp [intOf]; omega⟩
          · go_wp2_with fail
            refine (HAL.out _ _ (by first | exact Mod.refl _ _ | exact (Mod.refl _ _).alloc _)).mono ?_
            rintro e w8 ⟨rfl, t8, ht8, c8, r8, m8⟩
            have C8 := hid c8; have R8 := hid r8; have M8 := hid m8; have HT8 := hid ht8
            clear c8 r8 m8 ht8
            have N8 : Hid (New w w8) := hid (by first | exact N7.out.trans' M8.out (fun q hq e => e.elim (HTC.out q hq) (HTR.out q hq)) | exact (N7.out.alloc _).trans' M8.out (fun q hq e => e.elim (HTC.out q hq) (HTR.out q hq)))
            go_wp2
            exact ⟨⟨NOW, k + 1, _, _, _, _, rfl, by simp, by omega, by omega, C8.out, HG7.out, R8.out, (HA7.out.time HT8.out).mono (by simp), N8.out⟩, by simp [intOf]; omega⟩
    by_cases k5 : K = 5
    · subst k5
      as_aux_lemma =>
        go_wp2_with fail
        obtain ⟨w5, h5⟩ : ∃ w5, w5 = wr.alloc (.cells #[.int .i64 5, .int .i64 LT, .int .i64 WEB, .int .i64 PC, .bool FL] 48) := ⟨_, rfl⟩
        rw [← HX.out]
        rw [← h5]
        have N5 : Hid (New wr w5.drew) := hid (by rw [h5]; exact ((Mod.refl _ _).alloc _).drew)
        have X5d : Hid (Blk w5.drew X #[.int .i64 5, .int .i64 LT, .int .i64 WEB, .int .i64 PC, .bool FL] 48) := hid (Blk.drew (by rw [h5]; exact Blk.newAt HX.out))
        have R5d := hid (R0.out.new N5.out)
        clear h5
        obtain ⟨E, c2, f2, r2, A2, CC, RR⟩ := both_bad B SB cap MB ps cl G f R WB urls.length DB dc GB gc r k (NOW + LT) WEB PC w5.drew (C0.out.new N5.out) G0.out A0.out (by omega)
        have HCC := hid CC; have HRR := hid RR
        clear CC RR
        have x2 := X5d.out.cellv 2 rfl; have x3 := X5d.out.cellv 3 rfl
        refine wp_region_held_drew (S := (fun w' => w'.cell? ⟨X, 2, none⟩ = some (.int .i64 WEB) ∧ w'.cell? ⟨X, 3, none⟩ = some (.int .i64 PC))) (by kernel_rfl) ⟨x2, x3⟩ (fun hHeld => ?_)
        refine wpAnyH_take (i := 0) (v := ?_) (by simp only [List.getElem?_toArray, List.getElem?_cons_succ, List.getElem?_cons_zero]; rfl) (by kernel_rfl) (by kernel_rfl) (by kernel_rfl) (by intro _ _ _ h; exact h) (Or.inl ⟨by rfl, ?_⟩) (by assumption) ?_
        rotate_left
        · intro w hSw
          (try dsimp only at hSw)
          first | (go_simp; done) | (go_simp; with_reducible rfl) | with_reducible rfl
        simp only [Act.put, List.setIfInBounds_toArray, List.set_cons_zero, List.set_cons_succ]
        refine wpAnyH_take (i := 1) (v := ?_) (by simp only [List.getElem?_toArray, List.getElem?_cons_succ, List.getElem?_cons_zero]; rfl) (by kernel_rfl) (by kernel_rfl) (by kernel_rfl) (by intro _ _ _ h; exact h) (Or.inl ⟨by rfl, ?_⟩) (by assumption) ?_
        rotate_left
        · intro w hSw
          (try dsimp only at hSw)
          first | (go_simp; done) | (go_simp; with_reducible rfl) | with_reducible rfl
        simp only [Act.put, List.setIfInBounds_toArray, List.set_cons_zero, List.set_cons_succ]
        refine wpAnyH_take (i := 2) (v := ?_) (by simp only [List.getElem?_toArray, List.getElem?_cons_succ, List.getElem?_cons_zero]; rfl) (by kernel_rfl) (by kernel_rfl) (by kernel_rfl) (by intro _ _ _ h; exact h) (Or.inl ⟨by rfl, ?_⟩) (by assumption) ?_
        rotate_left
        · intro w hSw
          (try dsimp only at hSw)
          first | (go_simp; done) | (go_simp; with_reducible rfl) | with_reducible rfl
        simp only [Act.put, List.setIfInBounds_toArray, List.set_cons_zero, List.set_cons_succ]
        refine wpAnyH_take (i := 3) (v := ?_) (by simp only [List.getElem?_toArray, List.getElem?_cons_succ, List.getElem?_cons_zero]; rfl) (by kernel_rfl) (by kernel_rfl) (by kernel_rfl) (by intro _ _ _ h; exact h) (Or.inl ⟨by rfl, ?_⟩) (by assumption) ?_
        rotate_left
        · intro w hSw
          (try dsimp only at hSw)
          first | (go_simp; done) | (go_simp; with_reducible rfl) | with_reducible rfl
        simp only [Act.put, List.setIfInBounds_toArray, List.set_cons_zero, List.set_cons_succ]
        refine wpAnyH_take (i := 4) (v := ?_) (by simp only [List.getElem?_toArray, List.getElem?_cons_succ, List.getElem?_cons_zero]; rfl) (by kernel_rfl) (by kernel_rfl) (by kernel_rfl) (by intro _ _ _ h; exact h) (Or.inl ⟨by rfl, ?_⟩) (by assumption) ?_
        rotate_left
        · intro w hSw
          (try dsimp only at hSw)
          first | (go_simp; done) | (go_simp; with_reducible rfl) | with_reducible rfl
        simp only [Act.put, List.setIfInBounds_toArray, List.set_cons_zero, List.set_cons_succ]
        refine wpAnyH_take (i := 5) (v := ?_) (by simp only [List.getElem?_toArray, List.getElem?_cons_succ, List.getElem?_cons_zero]; rfl) (by kernel_rfl) (by kernel_rfl) (by kernel_rfl) (by intro _ _ _ h; exact h) (Or.inl ⟨by rfl, ?_⟩) (by assumption) ?_
        rotate_left
        · intro w hSw
          (try dsimp only at hSw)
          first | (go_simp; done) | (go_simp; with_reducible rfl) | with_reducible rfl
        simp only [Act.put, List.setIfInBounds_toArray, List.set_cons_zero, List.set_cons_succ]
        refine wpAnyH_take (i := 7) (v := ?_) (by simp only [List.getElem?_toArray, List.getElem?_cons_succ, List.getElem?_cons_zero]; rfl) (by kernel_rfl) (by kernel_rfl) (by kernel_rfl) (by intro _ _ _ h; exact h) (Or.inl ⟨by rfl, ?_⟩) (by assumption) ?_
        rotate_left
        · intro w hSw
          (try dsimp only at hSw)
          first | (go_simp; done) | (go_simp; with_reducible rfl) | with_reducible rfl
        simp only [Act.put, List.setIfInBounds_toArray, List.set_cons_zero, List.set_cons_succ]
        refine wpAnyH_take (i := 8) (v := ?_) (by simp only [List.getElem?_toArray, List.getElem?_cons_succ, List.getElem?_cons_zero]; rfl) (by kernel_rfl) (by kernel_rfl) (by kernel_rfl) (by intro _ _ _ h; exact h) (Or.inl ⟨by rfl, ?_⟩) (by assumption) ?_
        rotate_left
        · intro w hSw
          (try dsimp only at hSw)
          first | (go_simp; done) | (go_simp; with_reducible rfl) | with_reducible rfl
        simp only [Act.put, List.setIfInBounds_toArray, List.set_cons_zero, List.set_cons_succ]
        refine wpAnyH_take (i := 9) (v := ?_) (by simp only [List.getElem?_toArray, List.getElem?_cons_succ, List.getElem?_cons_zero]; rfl) (by kernel_rfl) (by kernel_rfl) (by kernel_rfl) (by intro _ _ _ h; exact h) (Or.inl ⟨by rfl, ?_⟩) (by assumption) ?_
        rotate_left
        · intro w hSw
          (try dsimp only at hSw)
          first | (go_simp; done) | (go_simp; with_reducible rfl) | with_reducible rfl
        simp only [Act.put, List.setIfInBounds_toArray, List.set_cons_zero, List.set_cons_succ]
        refine wpAnyH_take (i := 10) (v := ?_) (by simp only [List.getElem?_toArray, List.getElem?_cons_succ, List.getElem?_cons_zero]; rfl) (by kernel_rfl) (by kernel_rfl) (by kernel_rfl) (by intro _ _ _ h; exact h) (Or.inl ⟨by rfl, ?_⟩) (by assumption) ?_
        rotate_left
        · intro w hSw
          (try dsimp only at hSw)
          first | (go_simp; done) | (go_simp; with_reducible rfl) | with_reducible rfl
        simp only [Act.put, List.setIfInBounds_toArray, List.set_cons_zero, List.set_cons_succ]
        refine wpAnyH_take (i := 11) (v := ?_) (by simp only [List.getElem?_toArray, List.getElem?_cons_succ, List.getElem?_cons_zero]; rfl) (by kernel_rfl) (by kernel_rfl) (by kernel_rfl) (by intro _ _ _ h; exact h) (Or.inl ⟨by rfl, ?_⟩) (by assumption) ?_
        rotate_left
        · intro w hSw
          (try dsimp only at hSw)
          first | (go_simp; done) | (go_simp; with_reducible rfl) | with_reducible rfl
        simp only [Act.put, List.setIfInBounds_toArray, List.set_cons_zero, List.set_cons_succ]
        refine wpAnyH_take (i := 12) (v := ?_) (by simp only [List.getElem?_toArray, List.getElem?_cons_succ, List.getElem?_cons_zero]; rfl) (by kernel_rfl) (by kernel_rfl) (by kernel_rfl) (by intro _ _ _ h; exact h) (Or.inl ⟨by rfl, ?_⟩) (by assumption) ?_
        rotate_left
        · intro w hSw
          (try dsimp only at hSw)
          first | (go_simp; done) | (go_simp; with_reducible rfl) | with_reducible rfl
        simp only [Act.put, List.setIfInBounds_toArray, List.set_cons_zero, List.set_cons_succ]
        refine wpAnyH_ready (rs := [6]) (by kernel_rfl) (by simp) ?_
        refine AllReadyH.cons rfl (fun K hK => ?_) AllReadyH.nil
        go_simp
        (go_at_call 17; refine HCC.out.mono ?_; rintro e w6 ⟨rfl, G2, c6, g6, m6⟩; have C6 := hid c6; have G6 := hid g6; have M6 := hid m6; have X6 := hid (m6.blk X5d.out HXC.out); have R6 := hid (R5d.out.mod m6 (fun q a b => HCR.out q b a)); clear c6 g6 m6)
        try dsimp only
        refine hK.out _ _ ⟨X6.out.cellv 2 rfl, X6.out.cellv 3 rfl⟩ (fun hHeld6 => ?_)
        clear hK K
        try simp only [Act.put, List.setIfInBounds_toArray, List.set_cons_zero, List.set_cons_succ]
        refine wpAnyH_ready (rs := [13]) (by kernel_rfl) (by simp) ?_
        refine AllReadyH.cons rfl (fun K hK => ?_) AllReadyH.nil
        go_simp
        (go_at_call 18; refine (HRR.out _ R6.out).mono ?_; rintro e w7 ⟨rfl, r7, m7⟩; have R7 := hid r7; have M7 := hid m7; have X7 := hid (m7.blk X6.out HXR.out); have C7 := hid (C6.out.other m7 HF.out); clear r7 m7)
        try dsimp only
        refine hK.out _ _ ⟨X7.out.cellv 2 rfl, X7.out.cellv 3 rfl⟩ (fun hHeld13 => ?_)
        clear hK K
        try simp only [Act.put, List.setIfInBounds_toArray, List.set_cons_zero, List.set_cons_succ]
        refine wpAnyH_take (i := 14) (v := ?_) (by simp only [List.getElem?_toArray, List.getElem?_cons_succ, List.getElem?_cons_zero]; rfl) (by kernel_rfl) (by kernel_rfl) (by kernel_rfl) (by intro _ _ _ h; exact h) (Or.inl ⟨by rfl, ?_⟩) (by assumption) ?_
        rotate_left
        · intro w hSw
          (try dsimp only at hSw)
          first | (go_simp; done) | (go_simp; with_reducible rfl) | with_reducible rfl
        simp only [Act.put, List.setIfInBounds_toArray, List.set_cons_zero, List.set_cons_succ]
        refine wpAnyH_take (i := 15) (v := ?_) (by simp only [List.getElem?_toArray, List.getElem?_cons_succ, List.getElem?_cons_zero]; rfl) (by kernel_rfl) (by kernel_rfl) (by kernel_rfl) (by intro _ _ _ h; exact h) (Or.inl ⟨by rfl, ?_⟩) (by assumption) ?_
        rotate_left
        · intro w hSw
          (try dsimp only at hSw)
          first | (go_simp; done) | (go_simp; with_reducible rfl) | with_reducible rfl
        simp only [Act.put, List.setIfInBounds_toArray, List.set_cons_zero, List.set_cons_succ]
        refine wpAnyH_done (by kernel_rfl) ?_ _
        have HA7 := hid A2
        have HG7 := G6
        have HAL := hid (fun nw W (n : New w7 W) => alike_any B SB cap MB ps c2 _ f2 R WB urls.length DB dc GB gc r2 _ nw urls.length W (C7.out.new n) (R7.out.new n) HA7.out HF.out (by omega))
        have x0 := X7.out.cellv 0 rfl; have x1 := X7.out.cellv 1 rfl; have xl := X7.out.lt
        have N7 : Hid (New w w7) := hid (((N0.out.trans N5.out).trans' M6.out (fun q hq e => HTC.out q hq e)).trans' M7.out (fun q hq e => HTR.out q hq e))
        by_cases hl1 : 0 < LT
        · by_cases hl2 : NOW + LT ≤ 1000000000
          · go_wp2_with fail
            refine (HAL.out _ _ (by first | exact Mod.refl _ _ | exact (Mod.refl _ _).alloc _)).mono ?_
            rintro e w8 ⟨rfl, t8, ht8, c8, r8, m8⟩
            have C8 := hid c8; have R8 := hid r8; have M8 := hid m8; have HT8 := hid ht8
            clear c8 r8 m8 ht8
            have N8 : Hid (New w w8) := hid (by first | exact N7.out.trans' M8.out (fun q hq e => e.elim (HTC.out q hq) (HTR.out q hq)) | exact (N7.out.alloc _).trans' M8.out (fun q hq e => e.elim (HTC.out q hq) (HTR.out q hq)))
            go_wp2
            exact ⟨⟨(NOW + LT), k + 1, _, _, _, _, rfl, by simp, by omega, by omega, C8.out, HG7.out, R8.out, (HA7.out.time HT8.out).mono (by simp), N8.out⟩, by simp [intOf]; omega⟩
          · go_wp2_with fail
            refine (HAL.out _ _ (by first | exact Mod.refl _ _ | exact (Mod.refl _ _).alloc _)).mono ?_
            rintro e w8 ⟨rfl, t8, ht8, c8, r8, m8⟩
            have C8 := hid c8; have R8 := hid r8; have M8 := hid m8; have HT8 := hid ht8
            clear c8 r8 m8 ht8
            have N8 : Hid (New w w8) := hid (by first | exact N7.out.trans' M8.out (fun q hq e => e.elim (HTC.out q hq) (HTR.out q hq)) | exact (N7.out.alloc _).trans' M8.out (fun q hq e => e.elim (HTC.out q hq) (HTR.out q hq)))
            go_wp2
            exact ⟨⟨NOW, k + 1, _, _, _, _, rfl, by simp, by omega, by omega, C8.out, HG7.out, R8.out, (HA7.out.time HT8.out).mono (by simp), N8.out⟩, by simp [intOf]; omega⟩
        · go_wp2_with fail
          refine (HAL.out _ _ (by first | exact Mod.refl _ _ | exact (Mod.refl _ _).alloc _)).mono ?_
          rintro e w8 ⟨rfl, t8, ht8, c8, r8, m8⟩
          have C8 := hid c8; have R8 := hid r8; have M8 := hid m8; have HT8 := hid ht8
          clear c8 r8 m8 ht8
          have N8 : Hid (New w w8) := hid (by first | exact N7.out.trans' M8.out (fun q hq e => e.elim (HTC.out q hq) (HTR.out q hq)) | exact (N7.out.alloc _).trans' M8.out (fun q hq e => e.elim (HTC.out q hq) (HTR.out q hq)))
          go_wp2
          exact ⟨⟨NOW, k + 1, _, _, _, _, rfl, by simp, by omega, by omega, C8.out, HG7.out, R8.out, (HA7.out.time HT8.out).mono (by simp), N8.out⟩, by simp [intOf]; omega⟩
    by_cases k6 : K = 6
    · subst k6
      as_aux_lemma =>
        go_wp2_with fail
        obtain ⟨w5, h5⟩ : ∃ w5, w5 = wr.alloc (.cells #[.int .i64 6, .int .i64 LT, .int .i64 WEB, .int .i64 PC, .bool FL] 48) := ⟨_, rfl⟩
        rw [← HX.out]
        rw [← h5]
        have N5 : Hid (New wr w5.drew) := hid (by rw [h5]; exact ((Mod.refl _ _).alloc _).drew)
        have X5d : Hid (Blk w5.drew X #[.int .i64 6, .int .i64 LT, .int .i64 WEB, .int .i64 PC, .bool FL] 48) := hid (Blk.drew (by rw [h5]; exact Blk.newAt HX.out))
        have R5d := hid (R0.out.new N5.out)
        clear h5
        obtain ⟨E, c2, f2, r2, A2, CC, RR⟩ := both_want B SB cap MB ps cl G f R WB urls.length DB dc GB gc r k PC FL w5.drew (C0.out.new N5.out) G0.out A0.out
        have HCC := hid CC; have HRR := hid RR
        clear CC RR
        have x3 := X5d.out.cellv 3 rfl; have x4 := X5d.out.cellv 4 rfl
        refine wp_region_held_drew (S := (fun w' => w'.cell? ⟨X, 3, none⟩ = some (.int .i64 PC) ∧ w'.cell? ⟨X, 4, none⟩ = some (.bool FL))) (by kernel_rfl) ⟨x3, x4⟩ (fun hHeld => ?_)
        refine wpAnyH_take (i := 0) (v := ?_) (by simp only [List.getElem?_toArray, List.getElem?_cons_succ, List.getElem?_cons_zero]; rfl) (by kernel_rfl) (by kernel_rfl) (by kernel_rfl) (by intro _ _ _ h; exact h) (Or.inl ⟨by rfl, ?_⟩) (by assumption) ?_
        rotate_left
        · intro w hSw
          (try dsimp only at hSw)
          first | (go_simp; done) | (go_simp; with_reducible rfl) | with_reducible rfl
        simp only [Act.put, List.setIfInBounds_toArray, List.set_cons_zero, List.set_cons_succ]
        refine wpAnyH_take (i := 1) (v := ?_) (by simp only [List.getElem?_toArray, List.getElem?_cons_succ, List.getElem?_cons_zero]; rfl) (by kernel_rfl) (by kernel_rfl) (by kernel_rfl) (by intro _ _ _ h; exact h) (Or.inl ⟨by rfl, ?_⟩) (by assumption) ?_
        rotate_left
        · intro w hSw
          (try dsimp only at hSw)
          first | (go_simp; done) | (go_simp; with_reducible rfl) | with_reducible rfl
        simp only [Act.put, List.setIfInBounds_toArray, List.set_cons_zero, List.set_cons_succ]
        refine wpAnyH_take (i := 2) (v := ?_) (by simp only [List.getElem?_toArray, List.getElem?_cons_succ, List.getElem?_cons_zero]; rfl) (by kernel_rfl) (by kernel_rfl) (by kernel_rfl) (by intro _ _ _ h; exact h) (Or.inl ⟨by rfl, ?_⟩) (by assumption) ?_
        rotate_left
        · intro w hSw
          (try dsimp only at hSw)
          first | (go_simp; done) | (go_simp; with_reducible rfl) | with_reducible rfl
        simp only [Act.put, List.setIfInBounds_toArray, List.set_cons_zero, List.set_cons_succ]
        refine wpAnyH_take (i := 3) (v := ?_) (by simp only [List.getElem?_toArray, List.getElem?_cons_succ, List.getElem?_cons_zero]; rfl) (by kernel_rfl) (by kernel_rfl) (by kernel_rfl) (by intro _ _ _ h; exact h) (Or.inl ⟨by rfl, ?_⟩) (by assumption) ?_
        rotate_left
        · intro w hSw
          (try dsimp only at hSw)
          first | (go_simp; done) | (go_simp; with_reducible rfl) | with_reducible rfl
        simp only [Act.put, List.setIfInBounds_toArray, List.set_cons_zero, List.set_cons_succ]
        refine wpAnyH_take (i := 4) (v := ?_) (by simp only [List.getElem?_toArray, List.getElem?_cons_succ, List.getElem?_cons_zero]; rfl) (by kernel_rfl) (by kernel_rfl) (by kernel_rfl) (by intro _ _ _ h; exact h) (Or.inl ⟨by rfl, ?_⟩) (by assumption) ?_
        rotate_left
        · intro w hSw
          (try dsimp only at hSw)
          first | (go_simp; done) | (go_simp; with_reducible rfl) | with_reducible rfl
        simp only [Act.put, List.setIfInBounds_toArray, List.set_cons_zero, List.set_cons_succ]
        refine wpAnyH_take (i := 6) (v := ?_) (by simp only [List.getElem?_toArray, List.getElem?_cons_succ, List.getElem?_cons_zero]; rfl) (by kernel_rfl) (by kernel_rfl) (by kernel_rfl) (by intro _ _ _ h; exact h) (Or.inl ⟨by rfl, ?_⟩) (by assumption) ?_
        rotate_left
        · intro w hSw
          (try dsimp only at hSw)
          first | (go_simp; done) | (go_simp; with_reducible rfl) | with_reducible rfl
        simp only [Act.put, List.setIfInBounds_toArray, List.set_cons_zero, List.set_cons_succ]
        refine wpAnyH_take (i := 7) (v := ?_) (by simp only [List.getElem?_toArray, List.getElem?_cons_succ, List.getElem?_cons_zero]; rfl) (by kernel_rfl) (by kernel_rfl) (by kernel_rfl) (by intro _ _ _ h; exact h) (Or.inl ⟨by rfl, ?_⟩) (by assumption) ?_
        rotate_left
        · intro w hSw
          (try dsimp only at hSw)
          first | (go_simp; done) | (go_simp; with_reducible rfl) | with_reducible rfl
        simp only [Act.put, List.setIfInBounds_toArray, List.set_cons_zero, List.set_cons_succ]
        refine wpAnyH_take (i := 8) (v := ?_) (by simp only [List.getElem?_toArray, List.getElem?_cons_succ, List.getElem?_cons_zero]; rfl) (by kernel_rfl) (by kernel_rfl) (by kernel_rfl) (by intro _ _ _ h; exact h) (Or.inl ⟨by rfl, ?_⟩) (by assumption) ?_
        rotate_left
        · intro w hSw
          (try dsimp only at hSw)
          first | (go_simp; done) | (go_simp; with_reducible rfl) | with_reducible rfl
        simp only [Act.put, List.setIfInBounds_toArray, List.set_cons_zero, List.set_cons_succ]
        refine wpAnyH_take (i := 9) (v := ?_) (by simp only [List.getElem?_toArray, List.getElem?_cons_succ, List.getElem?_cons_zero]; rfl) (by kernel_rfl) (by kernel_rfl) (by kernel_rfl) (by intro _ _ _ h; exact h) (Or.inl ⟨by rfl, ?_⟩) (by assumption) ?_
        rotate_left
        · intro w hSw
          (try dsimp only at hSw)
          first | (go_simp; done) | (go_simp; with_reducible rfl) | with_reducible rfl
        simp only [Act.put, List.setIfInBounds_toArray, List.set_cons_zero, List.set_cons_succ]
        refine wpAnyH_take (i := 10) (v := ?_) (by simp only [List.getElem?_toArray, List.getElem?_cons_succ, List.getElem?_cons_zero]; rfl) (by kernel_rfl) (by kernel_rfl) (by kernel_rfl) (by intro _ _ _ h; exact h) (Or.inl ⟨by rfl, ?_⟩) (by assumption) ?_
        rotate_left
        · intro w hSw
          (try dsimp only at hSw)
          first | (go_simp; done) | (go_simp; with_reducible rfl) | with_reducible rfl
        simp only [Act.put, List.setIfInBounds_toArray, List.set_cons_zero, List.set_cons_succ]
        refine wpAnyH_ready (rs := [5]) (by kernel_rfl) (by simp) ?_
        refine AllReadyH.cons rfl (fun K hK => ?_) AllReadyH.nil
        go_simp
        (go_at_call 19; refine HCC.out.mono ?_; rintro e w6 ⟨rfl, G2, c6, g6, m6⟩; have C6 := hid c6; have G6 := hid g6; have M6 := hid m6; have X6 := hid (m6.blk X5d.out HXC.out); have R6 := hid (R5d.out.mod m6 (fun q a b => HCR.out q b a)); clear c6 g6 m6)
        try dsimp only
        refine hK.out _ _ ⟨X6.out.cellv 3 rfl, X6.out.cellv 4 rfl⟩ (fun hHeld5 => ?_)
        clear hK K
        try simp only [Act.put, List.setIfInBounds_toArray, List.set_cons_zero, List.set_cons_succ]
        refine wpAnyH_ready (rs := [11]) (by kernel_rfl) (by simp) ?_
        refine AllReadyH.cons rfl (fun K hK => ?_) AllReadyH.nil
        go_simp
        (go_at_call 20; refine (HRR.out _ R6.out).mono ?_; rintro e w7 ⟨rfl, r7, m7⟩; have R7 := hid r7; have M7 := hid m7; have X7 := hid (m7.blk X6.out HXR.out); have C7 := hid (C6.out.other m7 HF.out); clear r7 m7)
        try dsimp only
        refine hK.out _ _ ⟨X7.out.cellv 3 rfl, X7.out.cellv 4 rfl⟩ (fun hHeld11 => ?_)
        clear hK K
        try simp only [Act.put, List.setIfInBounds_toArray, List.set_cons_zero, List.set_cons_succ]
        refine wpAnyH_take (i := 12) (v := ?_) (by simp only [List.getElem?_toArray, List.getElem?_cons_succ, List.getElem?_cons_zero]; rfl) (by kernel_rfl) (by kernel_rfl) (by kernel_rfl) (by intro _ _ _ h; exact h) (Or.inl ⟨by rfl, ?_⟩) (by assumption) ?_
        rotate_left
        · intro w hSw
          (try dsimp only at hSw)
          first | (go_simp; done) | (go_simp; with_reducible rfl) | with_reducible rfl
        simp only [Act.put, List.setIfInBounds_toArray, List.set_cons_zero, List.set_cons_succ]
        refine wpAnyH_take (i := 13) (v := ?_) (by simp only [List.getElem?_toArray, List.getElem?_cons_succ, List.getElem?_cons_zero]; rfl) (by kernel_rfl) (by kernel_rfl) (by kernel_rfl) (by intro _ _ _ h; exact h) (Or.inl ⟨by rfl, ?_⟩) (by assumption) ?_
        rotate_left
        · intro w hSw
          (try dsimp only at hSw)
          first | (go_simp; done) | (go_simp; with_reducible rfl) | with_reducible rfl
        simp only [Act.put, List.setIfInBounds_toArray, List.set_cons_zero, List.set_cons_succ]
        refine wpAnyH_done (by kernel_rfl) ?_ _
        have HA7 := hid A2
        have HG7 := G6
        have HAL := hid (fun nw W (n : New w7 W) => alike_any B SB cap MB ps c2 _ f2 R WB urls.length DB dc GB gc r2 _ nw urls.length W (C7.out.new n) (R7.out.new n) HA7.out HF.out (by omega))
        have x0 := X7.out.cellv 0 rfl; have x1 := X7.out.cellv 1 rfl; have xl := X7.out.lt
        have N7 : Hid (New w w7) := hid (((N0.out.trans N5.out).trans' M6.out (fun q hq e => HTC.out q hq e)).trans' M7.out (fun q hq e => HTR.out q hq e))
        by_cases hl1 : 0 < LT
        · by_cases hl2 : NOW + LT ≤ 1000000000
          · go_wp2_with fail
            refine (HAL.out _ _ (by first | exact Mod.refl _ _ | exact (Mod.refl _ _).alloc _)).mono ?_
            rintro e w8 ⟨rfl, t8, ht8, c8, r8, m8⟩
            have C8 := hid c8; have R8 := hid r8; have M8 := hid m8; have HT8 := hid ht8
            clear c8 r8 m8 ht8
            have N8 : Hid (New w w8) := hid (by first | exact N7.out.trans' M8.out (fun q hq e => e.elim (HTC.out q hq) (HTR.out q hq)) | exact (N7.out.alloc _).trans' M8.out (fun q hq e => e.elim (HTC.out q hq) (HTR.out q hq)))
            go_wp2
            exact ⟨⟨NOW, k + 1, _, _, _, _, rfl, by simp, by omega, by omega, C8.out, HG7.out, R8.out, (HA7.out.time HT8.out).mono (by simp), N8.out⟩, by simp [intOf]; omega⟩
          · go_wp2_with fail
            refine (HAL.out _ _ (by first | exact Mod.refl _ _ | exact (Mod.refl _ _).alloc _)).mono ?_
            rintro e w8 ⟨rfl, t8, ht8, c8, r8, m8⟩
            have C8 := hid c8; have R8 := hid r8; have M8 := hid m8; have HT8 := hid ht8
            clear c8 r8 m8 ht8
            have N8 : Hid (New w w8) := hid (by first | exact N7.out.trans' M8.out (fun q hq e => e.elim (HTC.out q hq) (HTR.out q hq)) | exact (N7.out.alloc _).trans' M8.out (fun q hq e => e.elim (HTC.out q hq) (HTR.out q hq)))
            go_wp2
            exact ⟨⟨NOW, k + 1, _, _, _, _, rfl, by simp, by omega, by omega, C8.out, HG7.out, R8.out, (HA7.out.time HT8.out).mono (by simp), N8.out⟩, by simp [intOf]; omega⟩
        · go_wp2_with fail
          refine (HAL.out _ _ (by first | exact Mod.refl _ _ | exact (Mod.refl _ _).alloc _)).mono ?_
          rintro e w8 ⟨rfl, t8, ht8, c8, r8, m8⟩
          have C8 := hid c8; have R8 := hid r8; have M8 := hid m8; have HT8 := hid ht8
          clear c8 r8 m8 ht8
          have N8 : Hid (New w w8) := hid (by first | exact N7.out.trans' M8.out (fun q hq e => e.elim (HTC.out q hq) (HTR.out q hq)) | exact (N7.out.alloc _).trans' M8.out (fun q hq e => e.elim (HTC.out q hq) (HTR.out q hq)))
          go_wp2
          exact ⟨⟨NOW, k + 1, _, _, _, _, rfl, by simp, by omega, by omega, C8.out, HG7.out, R8.out, (HA7.out.time HT8.out).mono (by simp), N8.out⟩, by simp [intOf]; omega⟩
    have hb1 : (K == 1) = false := by rw [beq_eq_false_iff_ne]; omega
    have hb2 : (K == 2) = false := by rw [beq_eq_false_iff_ne]; omega
    have hb3 : (K == 3) = false := by rw [beq_eq_false_iff_ne]; omega
    have hb4 : (K == 4) = false := by rw [beq_eq_false_iff_ne]; omega
    have hb5 : (K == 5) = false := by rw [beq_eq_false_iff_ne]; omega
    have hb6 : (K == 6) = false := by rw [beq_eq_false_iff_ne]; omega
    have hb7 : (K != 6) = true := by rw [bne_iff_ne]; omega
    clear k12 k34 k5 k6
    as_aux_lemma =>
      go_wp2_with fail
      obtain ⟨w5, h5⟩ : ∃ w5, w5 = wr.alloc (.cells #[.int .i64 K, .int .i64 LT, .int .i64 WEB, .int .i64 PC, .bool FL] 48) := ⟨_, rfl⟩
      rw [← HX.out]
      rw [← h5]
      have N5 : Hid (New wr w5) := hid (by rw [h5]; exact (Mod.refl _ _).alloc _)
      have X5d : Hid (Blk w5 X #[.int .i64 K, .int .i64 LT, .int .i64 WEB, .int .i64 PC, .bool FL] 48) := hid (by rw [h5]; exact Blk.newAt HX.out)
      have R5d := hid (R0.out.new N5.out)
      clear h5
      obtain ⟨z, u, v, E, c2, f2, r2, A2, CC, RR⟩ := both_next B SB cap MB ps cl G f R WB urls.length DB dc GB gc r k (NOW + LT) w5 (C0.out.new N5.out) G0.out A0.out
      have HCC := hid CC; have HRR := hid RR
      clear CC RR
      refine HCC.out.mono ?_
      rintro e w6 ⟨rfl, G2, c6, g6, m6⟩
      have C6 := hid c6
      have G6 := hid g6
      have M6 := hid m6
      have X6 := hid (m6.blk X5d.out HXC.out)
      have R6 := hid (R5d.out.mod m6 (fun q a b => HCR.out q b a))
      clear c6 g6 m6
      have x2 := X6.out.cellv 2 rfl; have xl := X6.out.lt
      go_wp2_with fail
      obtain ⟨w6b, h6b⟩ : ∃ w6b, w6b = w6.alloc (.cells #[.int .i64 u, .int .i64 v] 34) := ⟨_, rfl⟩
      rw [← h6b]
      have N6b : Hid (New w6 w6b) := hid (by rw [h6b]; exact (Mod.refl _ _).alloc _)
      have T6 : Hid (Blk w6b w6.heap.size #[.int .i64 u, .int .i64 v] 34) := hid (by rw [h6b]; exact Blk.new _ _ _)
      clear h6b x2 xl
      refine (HRR.out _ (R6.out.new N6b.out)).mono ?_
      rintro e w7 ⟨rfl, r7, m7⟩
      have R7 := hid r7; have M7 := hid m7
      have X7 := hid (m7.blk (New.blk N6b.out X6.out) HXR.out)
      have C7 := hid ((C6.out.new N6b.out).other m7 HF.out)
      have T7 := hid (m7.blk T6.out (R6.out.below w6.heap.size (Nat.le_refl _)))
      clear r7 m7
      have HA7 := hid A2
      have HG7 := G6
      have HAL := hid (fun nw W (n : New w7 W) => alike_any B SB cap MB ps c2 _ f2 R WB urls.length DB dc GB gc r2 _ nw urls.length W (C7.out.new n) (R7.out.new n) HA7.out HF.out (by omega))
      have x0 := X7.out.cellv 0 rfl; have x1 := X7.out.cellv 1 rfl; have xl := X7.out.lt
      have N7 : Hid (New w w7) := hid ((((N0.out.trans N5.out).trans' M6.out (fun q hq e => HTC.out q hq e)).trans N6b.out).trans' M7.out (fun q hq e => HTR.out q hq e))
      have t0 := T7.out.cellv 0 rfl; have t1 := T7.out.cellv 1 rfl; have tl := T7.out.lt
      by_cases hl1 : 0 < LT
      · by_cases hl2 : NOW + LT ≤ 1000000000
        · go_wp2_with fail
          refine (HAL.out _ _ (by first | exact Mod.refl _ _ | exact (Mod.refl _ _).alloc _)).mono ?_
          rintro e w8 ⟨rfl, t8, ht8, c8, r8, m8⟩
          have C8 := hid c8; have R8 := hid r8; have M8 := hid m8; have HT8 := hid ht8
          clear c8 r8 m8 ht8
          have N8 : Hid (New w w8) := hid (by first | exact N7.out.trans' M8.out (fun q hq e => e.elim (HTC.out q hq) (HTR.out q hq)) | exact (N7.out.alloc _).trans' M8.out (fun q hq e => e.elim (HTC.out q hq) (HTR.out q hq)))
          go_wp2
          exact ⟨⟨(NOW + LT), k + 1, _, _, _, _, rfl, by simp, by omega, by omega, C8.out, HG7.out, R8.out, (HA7.out.time HT8.out).mono (by simp), N8.out⟩, by simp [intOf]; omega⟩
        · go_wp2_with fail
          refine (HAL.out _ _ (by first | exact Mod.refl _ _ | exact (Mod.refl _ _).alloc _)).mono ?_
          rintro e w8 ⟨rfl, t8, ht8, c8, r8, m8⟩
          have C8 := hid c8; have R8 := hid r8; have M8 := hid m8; have HT8 := hid ht8
          clear c8 r8 m8 ht8
          have N8 : Hid (New w w8) := hid (by first | exact N7.out.trans' M8.out (fun q hq e => e.elim (HTC.out q hq) (HTR.out q hq)) | exact (N7.out.alloc _).trans' M8.out (fun q hq e => e.elim (HTC.out q hq) (HTR.out q hq)))
          go_wp2
          exact ⟨⟨NOW, k + 1, _, _, _, _, rfl, by simp, by omega, by omega, C8.out, HG7.out, R8.out, (HA7.out.time HT8.out).mono (by simp), N8.out⟩, by simp [intOf]; omega⟩
      · go_wp2_with fail
        refine (HAL.out _ _ (by first | exact Mod.refl _ _ | exact (Mod.refl _ _).alloc _)).mono ?_
        rintro e w8 ⟨rfl, t8, ht8, c8, r8, m8⟩
        have C8 := hid c8; have R8 := hid r8; have M8 := hid m8; have HT8 := hid ht8
        clear c8 r8 m8 ht8
        have N8 : Hid (New w w8) := hid (by first | exact N7.out.trans' M8.out (fun q hq e => e.elim (HTC.out q hq) (HTR.out q hq)) | exact (N7.out.alloc _).trans' M8.out (fun q hq e => e.elim (HTC.out q hq) (HTR.out q hq)))
        go_wp2
        exact ⟨⟨NOW, k + 1, _, _, _, _, rfl, by simp, by omega, by omega, C8.out, HG7.out, R8.out, (HA7.out.time HT8.out).mono (by simp), N8.out⟩, by simp [intOf]; omega⟩
end Go.Proofs.YtnhgichiedninaaGreatDoor.webPlays
