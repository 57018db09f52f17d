/-
  Several texts in one, in their build order. The walk of WebOnce. Conditions: the arguments lie as told; the library's table is laid.
-/
import Derived.Test.YtnhgichiedninaaGreatDoorM23
import Derived.Test.YtnhgichiedninaaGreatDoorM8
import Derived.Test.YtnhgichiedninaaGreatDoorM36
import Derived.Test.YtnhgichiedninaaGreatDoorM44
namespace Go.Proofs.YtnhgichiedninaaGreatDoor.webOnce
set_option linter.unusedSimpArgs false
set_option linter.unusedVariables false
open Go.RowKit Go.Shelf

set_option maxRecDepth 100000 in
set_option maxHeartbeats 16000000 in
theorem law_any (a wa ea : Option Addr) (c wc ec : Nat) (urls : List ByteArray) (W : List Bool) (ends : List Int) (run : Int) (w : World) (h : StrsAt w a c urls) (hw : BoolsAt w wa wc W) (he : NumsAt w ea ec ends) (ht : Tab w) :
    Calls Tryz.prog 3 #[.slice a urls.length c, .slice wa W.length wc, .int .i64 run, .slice ea ends.length ec] w fun e w' => e = .returned (.bool true) ∧ New w w' := by
  have hr := h.room; have hc := h.cap; have hwr := hw.room; have hwc := hw.cap; have her := he.room; have hec := he.cap
  unfold maxLen at hc hwc hec
  have HLI : Hid (Calls Tryz.prog 6 #[.slice a urls.length c, .slice wa W.length wc, .slice none 0 0] w fun e w' => e = .returned (.bool (lightB urls W [])) ∧ New w w') := hid (light_any a wa none c wc 0 urls W [] w h hw (ActsAt.nil w))
  have HAW := hid (fun W' (n : New w W') => awake30_any W' (ht.new n))
  have HH := hid h; have HW := hid hw; have HE := hid he
  have HFI := hid (fun W' (n : New w W') (q : 0 < W.length ∧ W.length ≤ 4096) => field_any wa wc W W' (hw.new n) q)
  clear h hw he ht
  by_cases g1 : lightB urls W [] = true
  rotate_left
  · rw [show lightB urls W [] = false by simpa using g1] at HLI
    clear g1
    go_enter Tryz.func3, Tryz.ntmps3
    go_wp2_with (first | (go_at_call 6; refine HLI.out.mono ?_; rintro e w1 ⟨rfl, n1⟩; have N1 := hid n1; clear n1) | fail)
    refine (HAW.out _ N1.out).mono ?_
    rintro e w99 ⟨rfl, n9⟩
    have N99 := hid n9
    clear n9
    go_wp2
    go_ret
    exact ⟨rfl, (N1.out).trans N99.out⟩
  obtain ⟨l1, l2, -, l4, -⟩ := light_facts g1
  rw [g1] at HLI
  clear g1
  by_cases g2 : W.length = 0
  · have hb0 : ((W.length : Int) == 0) = true := by rw [g2]; rfl
    have HG2 := hid g2
    clear g2
    go_enter Tryz.func3, Tryz.ntmps3
    go_wp2_with (first | (go_at_call 6; refine HLI.out.mono ?_; rintro e w1 ⟨rfl, n1⟩; have N1 := hid n1; clear n1) | fail)
    refine (HAW.out _ N1.out).mono ?_
    rintro e w99 ⟨rfl, n9⟩
    have N99 := hid n9
    clear n9
    go_wp2
    go_ret
    exact ⟨rfl, (N1.out).trans N99.out⟩
  have hb0 : ((W.length : Int) == 0) = false := by rw [beq_eq_false_iff_ne]; omega
  have l0 : 0 < W.length := by omega
  clear g2
  by_cases g3 : 100 < ends.length
  · go_enter Tryz.func3, Tryz.ntmps3
    go_wp2_with (first | (go_at_call 6; refine HLI.out.mono ?_; rintro e w1 ⟨rfl, n1⟩; have N1 := hid n1; clear n1) | fail)
    refine (HAW.out _ N1.out).mono ?_
    rintro e w99 ⟨rfl, n9⟩
    have N99 := hid n9
    clear n9
    go_wp2
    go_ret
    exact ⟨rfl, (N1.out).trans N99.out⟩
  obtain ⟨fo, fb⟩ := fieldB_ok W
  have HFO : Hid (FieldOf W.length (⟨(fieldB W).toArray⟩ : ByteArray).data.toList) := hid (by simpa using fo)
  have HFB := hid fb
  have HFO2 := hid fo
  clear fb fo
  have HFI := hid (fun W' (n : New w W') => HFI.out W' n ⟨by omega, by omega⟩)
  obtain ⟨b1, o1, rfl, hb1, hc1⟩ := HW.out.get l0
  have HWC := hid hc1
  clear hc1
  obtain ⟨E, hE⟩ : ∃ E, E = newE urls run := ⟨_, rfl⟩
  by_cases g4 : E = 0
  rotate_left
  · have HNE := hid (fun W' (n : New w W') => hE ▸ cnew_no a c urls W.length ⟨(fieldB W).toArray⟩ run W' (HH.out.new n) (by omega) HFO.out (by rw [← hE]; exact g4))
    have hb1 : (E != 0) = true := by rw [bne_iff_ne]; exact g4
    clear hE g4
    go_enter Tryz.func3, Tryz.ntmps3
    go_wp2_with (first | (go_at_call 6; refine HLI.out.mono ?_; rintro e w1 ⟨rfl, n1⟩; have N1 := hid n1; clear n1) | fail)
    refine (HFI.out _ N1.out).mono ?_
    rintro e w2 ⟨rfl, n2⟩
    have N2 := hid (N1.out.trans n2)
    clear n2
    go_wp2_with fail
    refine (HNE.out _ N2.out).mono ?_
    rintro e w3 ⟨rfl, n3⟩
    have N3 := hid (N2.out.trans n3)
    clear n3
    go_wp2_with fail
    refine (HAW.out _ N3.out).mono ?_
    rintro e w99 ⟨rfl, n9⟩
    have N99 := hid n9
    clear n9
    go_wp2
    go_ret
    exact ⟨rfl, (N3.out).trans N99.out⟩
  obtain ⟨v1, v2, v3, v4⟩ := new_ok (hE ▸ g4)
  have HNW := hid (fun W' (n : New w W') => cnew_ok a c urls W.length ⟨(fieldB W).toArray⟩ run W' (HH.out.new n) v1 (by omega) HFO.out v2 v3 v4)
  clear hE g4 v1 v4 E
  go_enter Tryz.func3, Tryz.ntmps3
  go_wp2_with (first | (go_at_call 6; refine HLI.out.mono ?_; rintro e w1 ⟨rfl, n1⟩; have N1 := hid n1; clear n1) | fail)
  refine (HFI.out _ N1.out).mono ?_
  rintro e w2 ⟨rfl, n2⟩
  have N2 := hid (N1.out.trans n2)
  clear n2
  go_wp2_with fail
  refine (HNW.out _ N2.out).mono ?_
  rintro e w3 ⟨B, SB, cap, MB, ps, rfl, hC, n3, hT⟩
  have N3 := hid (N2.out.trans n3)
  have HC3 := hid hC
  have HBL := hid hC.below
  have HTT : Hid (∀ k, k < w.heap.size → ¬ (CliT B MB ps k ∨ k = w3.heap.size)) := hid (by
    intro k hk q
    rcases q with q | q
    · exact hT k (by have := N2.out.size; omega) q
    · have := N3.out.size; omega)
  clear n3 hC hT
  have hmm := @run_makeMap Tryz.prog
  go_wp2_with fail
  clear hmm
  have HM0 : Hid (CameAt (w3.alloc (.map #[] 0)) w3.heap.size []) := hid (MapL.made w3 _ rfl)
  have HC4 := hid (HC3.out.new ((Mod.refl (fun _ => False) w3).alloc (.map #[] 0)))
  have HMB : Hid (¬ CliT B MB ps w3.heap.size) := hid (fun q => by
    obtain ⟨q1, q2, q3, q4⟩ := HBL.out w3.heap.size (Nat.le_refl _)
    rcases q with q | q | q
    · exact q1 q
    · exact q3 q
    · exact q4 q)
  have HO0 := hid (OnceAt.start (W := W) (m := urls.length) (F := fieldB W) (run := run) v3.1 v2.1 HFO2.out (fun i hi => HFB.out i))
  have N4 : Hid (New w (w3.alloc (.map #[] 0))) := hid (N3.out.alloc _)
  obtain ⟨M, hM⟩ : ∃ M, M = w3.heap.size := ⟨_, rfl⟩
  rw [← hM] at HM0 HMB HTT
  have HMM := hid hM
  have HMD := hid (HBL.out M (by rw [hM]; exact Nat.le_refl _))
  have hwM : w.heap.size ≤ M := by rw [hM]; exact N3.out.size
  rw [← hM]
  clear hM
  go_loopw [12, 13] (fun x y wr => ∃ (now i : Nat) (cl : CliV) (G : List (Value × Value)) (f : Nat → Option Nat) (K : List Nat), x = .int .i64 now ∧ y = .int .i64 i ∧ now ≤ i ∧ i + cl.mu ≤ 2 * W.length ∧ OnceAt W cl K ∧ (0 ≤ cl.now ∧ cl.now ≤ now) ∧ cl.seeds.length = urls.length ∧ CliAt wr B SB cap MB ps cl G ∧ GvAt G f ∧ CameAt wr M K ∧ New w wr) (fun _ y _ => 2 * W.length + 1 - (intOf y).toNat)
  case atStart => exact ⟨0, 0, _, _, fun _ => none, [], rfl, rfl, Nat.le_refl _, by have := HO0.out.2; omega, HO0.out.1, ⟨by simp, by simp⟩, by simp, HC4.out, ⟨by simp, by simp⟩, HM0.out, N4.out⟩
  case round =>
    obtain ⟨now, i, cl, G, f, K, rfl, rfl, hni, hmu, hon, hnow, hsl, hc, hg, hcm, hn⟩ := hrel
    have HON := hid hon; have HCL := hid hc; have HG := hid hg; have HCM := hid hcm; have HN := hid hn; have HSL := hid hsl; have HNOW := hid hnow; have HMU := hid hmu
    have HUN := hid (fun W' (n : New wr W') => HN.out.trans n)
    have hi2 : i ≤ 120 := by omega
    clear hon hc hg hcm hn hsl hnow hmu HO0 HM0 HC4 N4
    by_cases hok : cl.nextE now = 0
    · have HNX := hid (cnext_yes B SB cap MB ps cl G now wr HCL.out hok)
      have HOK := hid hok
      clear hok
      go_wp2_with fail
      refine HNX.out.mono ?_
      rintro e w5 ⟨k, hk, rfl, hc5, hm5⟩
      obtain ⟨p1, p2, p3, p4, p5, p6, p7, p8, p9, s, p10, p11, p12, p13⟩ := HON.out.next HOK.out hk
      obtain ⟨c2, hc2⟩ : ∃ c2, c2 = cl.nextC now := ⟨_, rfl⟩
      obtain ⟨A1, hA1⟩ := Int.eq_ofNat_of_zero_le p6
      obtain ⟨n1, hn1⟩ := Int.eq_ofNat_of_zero_le (show 0 ≤ cl.nCnt by omega)
      rw [hA1, hn1] at p5 p8
      rw [hA1] at p12
      rw [hn1] at p13
      rw [hA1, hn1]
      rw [hn1] at p7
      rw [← hc2] at hc5 p1 p2 p3 p4 p10
      have HM5 := hid hm5
      have HON2 := hid p1
      have HP5 : Hid (∀ q : Nat, A1 ≤ q → q < A1 + n1 → W[q]? = some true ∧ q ∉ K) := hid (fun q q1 q2 => p5 q (by omega) (by omega))
      have HMU2 : Hid (i + 1 + c2.mu ≤ 2 * W.length) := hid (by have := HMU.out; omega)
      have HC2N := hid p3
      have HC2L : Hid (c2.seeds.length = urls.length) := hid (p4.trans HSL.out)
      have HS10 := hid p10; have HS11 := hid p11; have HS12 := hid p12; have HS13 := hid p13
      have C5 := hid hc5
      have K5 := hid (HCM.out.mod hm5 HMB.out)
      have N5 : Hid (New w w5) := hid (HN.out.trans' hm5 (fun q hq e => HTT.out q hq (.inl e)))
      have hA60 : A1 + n1 ≤ W.length := by omega
      clear hc5 hm5 p1 p2 p3 p4 p5 p6 p7 p8 p9 p10 p11 p12 p13 hA1 hn1 hc2 hk
      go_wp2
      obtain ⟨w6, h6⟩ : ∃ w6, w6 = w5.alloc (.cells #[.int .i64 A1, .int .i64 n1] 34) := ⟨_, rfl⟩
      rw [← h6]
      have R6 : Hid (Blk w6 w5.heap.size #[.int .i64 A1, .int .i64 n1] 34) := hid (by rw [h6]; exact Blk.new _ _ _)
      have N56 : New w5 w6 := by rw [h6]; exact (Mod.refl _ _).alloc _
      have C6 := hid (C5.out.new N56); have K6 := hid (K5.out.new N56); have N6 : Hid (New w w6) := hid (N5.out.trans N56)
      have hRM : w5.heap.size ≠ M := by have h1 : M < w5.heap.size := MapL.lt K5.out; omega
      have HRC := hid (C5.out.below w5.heap.size (Nat.le_refl _))
      have hRw : w.heap.size ≤ w5.heap.size := N5.out.size
      obtain ⟨R, hR⟩ : ∃ R, R = w5.heap.size := ⟨_, rfl⟩
      rw [← hR] at R6 hRM HRC hRw
      rw [← hR]
      clear h6 N56 C5 K5 N5 hR
      obtain ⟨wo, rfl⟩ : ∃ wo : World, wo = wr := ⟨_, rfl⟩
      go_loopw [17] (fun x wr => ∃ j : Nat, x = .int .i64 ((A1 + j : Nat) : Int) ∧ j ≤ n1 ∧ wr = w6) (fun x _ => A1 + n1 - (intOf x).toNat)
      case atStart => exact ⟨0, by simp, by omega, rfl⟩
      case round =>
        obtain ⟨j, rfl, hj, rfl⟩ := hrel
        have r0 := R6.out.cellv 0 rfl; have r1 := R6.out.cellv 1 rfl; have rl := R6.out.lt
        have hwq : IntKind.i64.wrap ((A1 : Int) + (n1 : Int)) = (A1 : Int) + (n1 : Int) := by rw [IntKind.wrap_i64]; omega
        obtain ⟨q, hq⟩ : ∃ q, q = A1 + j := ⟨_, rfl⟩
        rw [← hq]
        have HQ := hid hq
        by_cases hlt : j < n1
        · obtain ⟨x1, x2⟩ := HP5.out q (by omega) (by omega)
          have hql : q < W.length := by omega
          have hqI : (q : Int) < (W.length : Int) := by omega
          have hlt2 : (q : Int) < (A1 : Int) + (n1 : Int) := by omega
          have hWq : W[q] = true := by rw [List.getElem?_eq_getElem hql] at x1; injection x1
          have g0 := New.cellv N6.out (HWC.out q hql)
          rw [hWq] at g0
          have gl : b1 < wr.heap.size := World.block_lt_of_cell? _ _ g0
          have lk := came_no K6.out x2
          clear x1 x2 hq hWq
          go_wp2
          exact ⟨⟨j + 1, by have := HQ.out; simp; omega, by omega, trivial⟩, by have := HQ.out; simp [intOf]; omega⟩
        · have hlt2 : ¬ (q : Int) < (A1 : Int) + (n1 : Int) := by omega
          have hmm := @run_makeMap Tryz.prog
          have HUD := hid (fun W' (n : New wr W') => cunder_any B SB cap MB ps c2 G W' (C6.out.new n))
          clear hq
          go_wp2_with fail
          refine (HUD.out _ ((Mod.refl _ _).alloc _)).mono ?_
          rintro e w8 ⟨v8, U, rfl, u1, u2, u3, n8⟩
          obtain ⟨ua, uc, rfl, u4, u5, u6⟩ := u3
          unfold maxLen at u5
          have N8 := hid n8
          have E8 : Hid (MetAt w8 wr.heap.size []) := hid (MapL.new (MapL.made wr _ rfl) n8)
          have HND := hid (HON2.out.pcs u1)
          have HUB := hid (HON2.out.under u1)
          have HU6 := hid u6
          have hEw : w.heap.size ≤ wr.heap.size := N6.out.size
          have N68 : Hid (New wr w8) := hid (((Mod.refl (fun _ => False) wr).alloc (.map #[] 0)).trans n8)
          obtain ⟨w7, h7⟩ : ∃ w7, w7 = wr := ⟨_, rfl⟩
          rw [← h7] at E8 N68
          obtain ⟨E0, hE0⟩ : ∃ E0, E0 = w7.heap.size := ⟨_, rfl⟩
          rw [← hE0] at E8
          have HE0 := hid hE0
          rw [← h7] at R6 C6 K6 N6 N8
          rw [← h7, ← hE0]
          have HH7 := hid h7
          clear u1 u2 u6 n8 hmm HUD h7 hE0
          go_wp2
          go_loopw [108] (fun x w' => ∃ m : Nat, x = .int .i64 m ∧ m ≤ U.length ∧ MetAt w' E0 ((U.take m).flatMap pcsOf) ∧ Mod (fun q => q = E0) w8 w') (fun x _ => U.length - (intOf x).toNat)
          case atStart => exact ⟨0, rfl, by omega, by simpa using E8.out, Mod.refl _ _⟩
          case round =>
            obtain ⟨m, rfl, hm, hme, hmo⟩ := hrel
            have HME := hid hme; have HMO := hid hmo
            by_cases hlt3 : m < U.length
            · rcases HU6.out with u6 | ⟨g, rfl, hg, hcell⟩
              · rw [u6] at hlt3; simp at hlt3
              obtain ⟨x0, x1⟩ := hcell m hlt3
              have hgE : g ≠ E0 := cell_ne_map x0 E8.out
              have x0 := hmo.cellv x0 hgE
              have x1 := hmo.cellv x1 hgE
              have xl : g < wr.heap.size := World.block_lt_of_cell? _ _ x0
              obtain ⟨q1, q2, q3⟩ := HUB.out U[m] (List.getElem_mem hlt3)
              have hnx := pcs_next hlt3
              have hnd : ((U.take m).flatMap pcsOf ++ pcsOf U[m]).Nodup := by rw [← hnx]; exact pcs_part HND.out (m + 1)
              obtain ⟨a2, ha2⟩ := Int.eq_ofNat_of_zero_le q1
              obtain ⟨n2, hn2⟩ := Int.eq_ofNat_of_zero_le q2
              have hpo : pcsOf U[m] = List.range' a2 n2 := by unfold pcsOf; rw [ha2, hn2]; simp
              rw [hpo] at hnx hnd
              rw [ha2] at x0
              rw [hn2] at x1
              have HNX := hid hnx; have HND2 := hid hnd
              have han : a2 + n2 ≤ W.length := by omega
              clear hme hmo hcell hg q1 q2 q3 hnx hnd ha2 hn2 hpo
              have hEr : E0 < wr.heap.size := MapL.lt HME.out
              obtain ⟨wi, hwi⟩ : ∃ wi, wi = wr := ⟨_, rfl⟩
              rw [← hwi] at HME HMO x0 x1 xl hEr
              rw [← hwi]
              clear hwi
              go_wp2
              have D0 := hid (Blk.new wi #[.int .i64 a2, .int .i64 n2] 34)
              have hME2 := hid (HME.out.new ((Mod.refl (fun _ => False) wi).alloc (.cells #[.int .i64 a2, .int .i64 n2] 34)))
              obtain ⟨w9, h9⟩ : ∃ w9, w9 = wi.alloc (.cells #[.int .i64 a2, .int .i64 n2] 34) := ⟨_, rfl⟩
              rw [← h9] at D0 hME2
              rw [← h9]
              have N9 : Hid (New wi w9) := hid (by rw [h9]; exact (Mod.refl _ _).alloc _)
              have hDE : E0 ≠ wi.heap.size := by omega
              clear h9 x0 x1 xl
              go_loopw [21] (fun x w' => ∃ j : Nat, x = .int .i64 ((a2 + j : Nat) : Int) ∧ j ≤ n2 ∧ MetAt w' E0 ((U.take m).flatMap pcsOf ++ List.range' a2 j) ∧ Mod (fun q => q = E0) w9 w') (fun x _ => a2 + n2 - (intOf x).toNat)
              case atStart => exact ⟨0, by simp, by omega, by simpa using hME2.out, Mod.refl _ _⟩
              case round =>
                obtain ⟨j2, rfl, hj2, hme, hmo⟩ := hrel
                have hD := hmo.blk D0.out (fun e => hDE e.symm)
                have d0 := hD.cellv 0 rfl; have d1 := hD.cellv 1 rfl; have dl := hD.lt
                have HMO2 := hid hmo
                have hwq2 : IntKind.i64.wrap ((a2 : Int) + (n2 : Int)) = (a2 : Int) + (n2 : Int) := by rw [IntKind.wrap_i64]; omega
                obtain ⟨q2, hq2⟩ : ∃ q2, q2 = a2 + j2 := ⟨_, rfl⟩
                rw [← hq2]
                have HQ2 := hid hq2
                by_cases hlt4 : j2 < n2
                · have hni := not_range _ _ _ HND2.out hlt4
                  rw [← hq2] at hni
                  have lk2 := met_no hme hni
                  obtain ⟨wm, hup, hme2, hmo2⟩ := met_put hme hni
                  rw [hq2, List.append_assoc, ← range_next] at hme2
                  have HME3 := hid hme2; have HMO3 := hid (hmo.trans hmo2)
                  have hlt5 : (q2 : Int) < (a2 : Int) + (n2 : Int) := by omega
                  clear hme hmo hni hme2 hmo2 hD hq2
                  go_wp2
                  exact ⟨⟨j2 + 1, by have := HQ2.out; simp; omega, by omega, HME3.out, HMO3.out⟩, by have := HQ2.out; simp [intOf]; omega⟩
                · obtain rfl : j2 = n2 := by omega
                  have hlt5 : ¬ (q2 : Int) < (a2 : Int) + (j2 : Int) := by omega
                  have HME3 := hid (HNX.out ▸ hme)
                  clear hme hmo hD hq2
                  go_wp2
                  exact ⟨⟨m + 1, by simp, by omega, HME3.out, (HMO.out.trans N9.out.mod).trans HMO2.out⟩, by simp [intOf]; omega⟩
            · have N10 : Hid (New w7 wr) := hid (N68.out.trans' hmo (fun q hq e => by have := HE0.out; omega))
              clear hme hmo HME HMO
              have C10 := hid (C6.out.new N10.out); have K10 := hid (K6.out.new N10.out); have R10 := hid (New.blk N10.out R6.out)
              have N610 : Hid (New w wr) := hid (N6.out.trans N10.out)
              have HRN : Hid (¬ CliT B MB ps R) := hid (fun q => by
                obtain ⟨q1, q2, q3, q4⟩ := HRC.out
                rcases q with q | q | q
                · exact q1 q
                · exact q3 q
                · exact q4 q)
              have HTK := hid (ctook_yes B SB cap MB ps c2 G f now k s wr C10.out HG.out HS10.out (took_can HS10.out HS11.out ⟨by have := HC2N.out; omega, by omega⟩))
              rw [HS12.out, HS13.out] at HTK
              have HON3 := hid (HON2.out.took (now := now) HS10.out HS11.out)
              have HPCS : Hid (pcsOf (s.frm, s.cnt) = List.range' A1 n1) := hid (by unfold pcsOf; rw [HS12.out, HS13.out]; simp)
              have HND3 : Hid ((K ++ List.range' A1 n1).Nodup) := hid (by have := HON3.out.2.2.2.2.2.2; rwa [HPCS.out] at this)
              clear E8 HU6 HND HUB
              have hiW : i < 2 * W.length := by have := HMU2.out; omega
              by_cases hie : i < ends.length
              · obtain ⟨b5, o5, rfl, hb5, hc5⟩ := HE.out.get (by omega)
                have x0 := New.cellv N610.out (hc5 i hie)
                have xl : b5 < wr.heap.size := World.block_lt_of_cell? _ _ x0
                obtain ⟨x, hx⟩ : ∃ x, x = ends[i] := ⟨_, rfl⟩
                rw [← hx] at x0
                have hieI : (i : Int) < (ends.length : Int) := by omega
                obtain ⟨r, hr3⟩ : ∃ r, x.tmod 3 = r := ⟨_, rfl⟩
                have hwr3 : IntKind.i64.wrap r = r := by
                  have h1 : r = x - 3 * x.tdiv 3 := by rw [← hr3, Int.tmod_def]
                  have h2 := Int.tmod_lt_of_pos x (show (0 : Int) < 3 by decide)
                  have h3 := Int.lt_tmod_of_pos x (show (0 : Int) < 3 by decide)
                  rw [IntKind.wrap_i64]; omega
                clear hx hc5
                by_cases hz : r = 0
                · have hb2 : (r == 0) = true := by rw [hz]; rfl
                  have HZ := hid hz
                  clear hz
                  go_wp2
                  exact ⟨⟨now, i + 1, c2, G, f, K, rfl, by simp, by omega, HMU2.out, HON2.out, by rw [HC2N.out]; omega, HC2L.out, C10.out, HG.out, K10.out, N610.out⟩, by simp [intOf]; omega⟩
                · have hb2 : (r == 0) = false := by rw [beq_eq_false_iff_ne]; exact hz
                  clear hz
                  go_wp2_with fail
                  refine HTK.out.mono ?_
                  rintro e w11 ⟨rfl, G2, c11, g11, m11⟩
                  have R11 := hid (m11.blk R10.out HRN.out)
                  have K11 := hid (K10.out.mod m11 HMB.out)
                  have N11 : Hid (New w w11) := hid (N610.out.trans' m11 (fun q hq e => HTT.out q hq (.inl e)))
                  have C11 := hid c11; have G11 := hid g11
                  have r0 := R11.out.cellv 0 rfl; have r1 := R11.out.cellv 1 rfl; have rl := R11.out.lt; have rf0 := R11.out.frz 0; have rf1 := R11.out.frz 1
                  clear c11 g11 m11
                  go_wp2
                  obtain ⟨w12, h12⟩ : ∃ w12, w12 = (w11.setCell ⟨R, 0, none⟩ (.int .i64 A1)).setCell ⟨R, 1, none⟩ (.int .i64 n1) := ⟨_, rfl⟩
                  rw [← h12]
                  have R12 : Hid (Blk w12 R #[.int .i64 A1, .int .i64 n1] 34) := hid (by rw [h12]; exact ((R11.out.set 0 _).set 1 _).row (by simp))
                  have M12 : Hid (Mod (fun q => q = R) w11 w12) := hid (by rw [h12]; exact Mod.set (S := fun q => q = R) (Mod.set (S := fun q => q = R) (Mod.refl _ _) ⟨R, 0, none⟩ _ (.inl rfl)) ⟨R, 1, none⟩ _ (.inl rfl))
                  have K12 := hid (K11.out.mod M12.out (fun e => hRM (Eq.symm e)))
                  have C12 := hid (C11.out.other M12.out (fun q e => by have e2 : q = R := e; rw [e2]; exact HRC.out))
                  have N12 : Hid (New w w12) := hid (N11.out.trans' M12.out (fun q hq e => by have e2 : q = R := e; omega))
                  clear h12 r0 r1 rl rf0 rf1
                  go_loopw [22] (fun x w' => ∃ j : Nat, x = .int .i64 ((A1 + j : Nat) : Int) ∧ j ≤ n1 ∧ CameAt w' M (K ++ List.range' A1 j) ∧ Mod (fun q => q = M) w12 w') (fun x _ => A1 + n1 - (intOf x).toNat)
                  case atStart => exact ⟨0, by simp, by omega, by simpa using K12.out, Mod.refl _ _⟩
                  case round =>
                    obtain ⟨j2, rfl, hj2, hme, hmo⟩ := hrel
                    have hD := hmo.blk R12.out hRM
                    have d0 := hD.cellv 0 rfl; have d1 := hD.cellv 1 rfl; have dl := hD.lt
                    have HMO2 := hid hmo
                    have hwq2 : IntKind.i64.wrap ((A1 : Int) + (n1 : Int)) = (A1 : Int) + (n1 : Int) := by rw [IntKind.wrap_i64]; omega
                    obtain ⟨q2, hq2⟩ : ∃ q2, q2 = A1 + j2 := ⟨_, rfl⟩
                    rw [← hq2]
                    have HQ2 := hid hq2
                    by_cases hlt4 : j2 < n1
                    · have hni := not_range _ _ _ HND3.out hlt4
                      rw [← hq2] at hni
                      have lk2 := came_no hme hni
                      obtain ⟨wm, hup, hme2, hmo2⟩ := came_put hme hni
                      rw [hq2, List.append_assoc, ← range_next] at hme2
                      have HME3 := hid hme2; have HMO3 := hid (hmo.trans hmo2)
                      have hlt5 : (q2 : Int) < (A1 : Int) + (n1 : Int) := by omega
                      clear hme hmo hni hme2 hmo2 hD hq2
                      go_wp2
                      exact ⟨⟨j2 + 1, by have := HQ2.out; simp; omega, by omega, HME3.out, HMO3.out⟩, by have := HQ2.out; simp [intOf]; omega⟩
                    · obtain rfl : j2 = n1 := by omega
                      have hlt5 : ¬ (q2 : Int) < (A1 : Int) + (j2 : Int) := by omega
                      have HME3 := hid hme
                      clear hme hmo hD hq2
                      go_wp2
                      exact ⟨⟨now, i + 1, _, _, _, _, rfl, by simp, by omega, by have := HMU2.out; have := HON3.out.2.1; omega, HON3.out.1, by rw [HON3.out.2.2.1]; omega, by rw [HON3.out.2.2.2.1]; exact HC2L.out, C12.out.other HMO2.out (fun q e => by have e2 : q = M := e; rw [e2]; exact HMD.out), G11.out, by rw [HPCS.out]; exact HME3.out, N12.out.trans' HMO2.out (fun q hq e => by have e2 : q = M := e; omega)⟩, by simp [intOf]; omega⟩
              · have hieI : ¬ (i : Int) < (ends.length : Int) := by omega
                go_wp2_with fail
                refine HTK.out.mono ?_
                rintro e w11 ⟨rfl, G2, c11, g11, m11⟩
                have R11 := hid (m11.blk R10.out HRN.out)
                have K11 := hid (K10.out.mod m11 HMB.out)
                have N11 : Hid (New w w11) := hid (N610.out.trans' m11 (fun q hq e => HTT.out q hq (.inl e)))
                have C11 := hid c11; have G11 := hid g11
                have r0 := R11.out.cellv 0 rfl; have r1 := R11.out.cellv 1 rfl; have rl := R11.out.lt; have rf0 := R11.out.frz 0; have rf1 := R11.out.frz 1
                clear c11 g11 m11
                go_wp2
                obtain ⟨w12, h12⟩ : ∃ w12, w12 = (w11.setCell ⟨R, 0, none⟩ (.int .i64 A1)).setCell ⟨R, 1, none⟩ (.int .i64 n1) := ⟨_, rfl⟩
                rw [← h12]
                have R12 : Hid (Blk w12 R #[.int .i64 A1, .int .i64 n1] 34) := hid (by rw [h12]; exact ((R11.out.set 0 _).set 1 _).row (by simp))
                have M12 : Hid (Mod (fun q => q = R) w11 w12) := hid (by rw [h12]; exact Mod.set (S := fun q => q = R) (Mod.set (S := fun q => q = R) (Mod.refl _ _) ⟨R, 0, none⟩ _ (.inl rfl)) ⟨R, 1, none⟩ _ (.inl rfl))
                have K12 := hid (K11.out.mod M12.out (fun e => hRM (Eq.symm e)))
                have C12 := hid (C11.out.other M12.out (fun q e => by have e2 : q = R := e; rw [e2]; exact HRC.out))
                have N12 : Hid (New w w12) := hid (N11.out.trans' M12.out (fun q hq e => by have e2 : q = R := e; omega))
                clear h12 r0 r1 rl rf0 rf1
                go_loopw [22] (fun x w' => ∃ j : Nat, x = .int .i64 ((A1 + j : Nat) : Int) ∧ j ≤ n1 ∧ CameAt w' M (K ++ List.range' A1 j) ∧ Mod (fun q => q = M) w12 w') (fun x _ => A1 + n1 - (intOf x).toNat)
                case atStart => exact ⟨0, by simp, by omega, by simpa using K12.out, Mod.refl _ _⟩
                case round =>
                  obtain ⟨j2, rfl, hj2, hme, hmo⟩ := hrel
                  have hD := hmo.blk R12.out hRM
                  have d0 := hD.cellv 0 rfl; have d1 := hD.cellv 1 rfl; have dl := hD.lt
                  have HMO2 := hid hmo
                  have hwq2 : IntKind.i64.wrap ((A1 : Int) + (n1 : Int)) = (A1 : Int) + (n1 : Int) := by rw [IntKind.wrap_i64]; omega
                  obtain ⟨q2, hq2⟩ : ∃ q2, q2 = A1 + j2 := ⟨_, rfl⟩
                  rw [← hq2]
                  have HQ2 := hid hq2
                  by_cases hlt4 : j2 < n1
                  · have hni := not_range _ _ _ HND3.out hlt4
                    rw [← hq2] at hni
                    have lk2 := came_no hme hni
                    obtain ⟨wm, hup, hme2, hmo2⟩ := came_put hme hni
                    rw [hq2, List.append_assoc, ← range_next] at hme2
                    have HME3 := hid hme2; have HMO3 := hid (hmo.trans hmo2)
                    have hlt5 : (q2 : Int) < (A1 : Int) + (n1 : Int) := by omega
                    clear hme hmo hni hme2 hmo2 hD hq2
                    go_wp2
                    exact ⟨⟨j2 + 1, by have := HQ2.out; simp; omega, by omega, HME3.out, HMO3.out⟩, by have := HQ2.out; simp [intOf]; omega⟩
                  · obtain rfl : j2 = n1 := by omega
                    have hlt5 : ¬ (q2 : Int) < (A1 : Int) + (j2 : Int) := by omega
                    have HME3 := hid hme
                    clear hme hmo hD hq2
                    go_wp2
                    exact ⟨⟨now, i + 1, _, _, _, _, rfl, by simp, by omega, by have := HMU2.out; have := HON3.out.2.1; omega, HON3.out.1, by rw [HON3.out.2.2.1]; omega, by rw [HON3.out.2.2.2.1]; exact HC2L.out, C12.out.other HMO2.out (fun q e => by have e2 : q = M := e; rw [e2]; exact HMD.out), G11.out, by rw [HPCS.out]; exact HME3.out, N12.out.trans' HMO2.out (fun q hq e => by have e2 : q = M := e; omega)⟩, by simp [intOf]; omega⟩
    · have HNX := hid (cnext_no B SB cap MB ps cl G now wr HCL.out hok)
      have HOK := hid hok
      obtain ⟨E2, hE2⟩ : ∃ E2, E2 = cl.nextE now := ⟨_, rfl⟩
      rw [← hE2] at HNX hok
      have hb2 : (E2 == 0) = false := by rw [beq_eq_false_iff_ne]; exact hok
      have HONC := hid HON.out
      clear hok hE2
      go_wp2_with fail
      refine HNX.out.mono ?_
      rintro e w5 ⟨rfl, n5⟩
      have C5 := hid (HCL.out.new n5); have K5 := hid (HCM.out.new n5); have N5 : Hid (New w w5) := hid (HN.out.trans n5)
      clear n5
      go_wp2
      obtain ⟨w6, h6⟩ : ∃ w6, w6 = w5.alloc (.cells #[.int .i64 0, .int .i64 0] 34) := ⟨_, rfl⟩
      rw [← h6]
      have N56 : New w5 w6 := by rw [h6]; exact (Mod.refl _ _).alloc _
      have C6 := hid (C5.out.new N56); have K6 := hid (K5.out.new N56); have N6 : Hid (New w w6) := hid (N5.out.trans N56)
      clear h6 N56 C5 K5 N5
      obtain ⟨wo, rfl⟩ : ∃ wo : World, wo = wr := ⟨_, rfl⟩
      go_loopw [167, 23] (fun x y w' => ∃ (m : Nat) (en : Bool) (c2 : CliV) (G2 : List (Value × Value)) (f2 : Nat → Option Nat) (K2 : List Nat), x = .int .i64 m ∧ y = .bool en ∧ m ≤ urls.length ∧ OnceAt W c2 K2 ∧ (0 ≤ c2.now ∧ c2.now ≤ now) ∧ c2.seeds.length = urls.length ∧ i + c2.mu + (if en then 1 else 0) ≤ 2 * W.length ∧ (∀ (j : Nat) t, j < m → c2.seeds[j]? = some t → t.under = false) ∧ (en = false → c2 = cl ∧ K2 = K) ∧ CliAt w' B SB cap MB ps c2 G2 ∧ GvAt G2 f2 ∧ CameAt w' M K2 ∧ New w w') (fun x _ _ => urls.length - (intOf x).toNat)
      case atStart => exact ⟨0, false, cl, G, f, K, rfl, rfl, by omega, HON.out, HNOW.out, HSL.out, by simpa using HMU.out, by intros; omega, fun _ => ⟨rfl, rfl⟩, C6.out, HG.out, K6.out, N6.out⟩
      case round =>
        obtain ⟨m, en, c2, G2, f2, K2, rfl, rfl, hm, hon2, hnow2, hsl2, hmu2, hun2, hen, hc2, hg2, hk2, hn2⟩ := hrel
        have HON2 := hid hon2; have HNOW2 := hid hnow2; have HSL2 := hid hsl2; have HMU2 := hid hmu2; have HUN2 := hid hun2; have HEN := hid hen; have C7 := hid hc2; have G7 := hid hg2; have K7 := hid hk2; have N7 := hid hn2
        by_cases hlt : m < urls.length
        · obtain ⟨s, hs⟩ : ∃ s, c2.seeds[m]? = some s := ⟨_, List.getElem?_eq_getElem (by omega)⟩
          have HS := hid hs
          by_cases htk : c2.tookE now m = 0
          · have HU1 := hid (took_under hs htk)
            have HTK := hid (ctook_yes B SB cap MB ps c2 G2 f2 now m s wr hc2 hg2 hs htk)
            obtain ⟨q1, q2, q3⟩ := hon2.rng s (List.mem_of_getElem? hs)
            obtain ⟨a3, ha3⟩ := Int.eq_ofNat_of_zero_le q1
            obtain ⟨n3, hn3⟩ := Int.eq_ofNat_of_zero_le q2
            rw [ha3, hn3] at HTK
            have HON3 := hid (hon2.took (now := now) hs HU1.out)
            have HPCS : Hid (pcsOf (s.frm, s.cnt) = List.range' a3 n3) := hid (by unfold pcsOf; rw [ha3, hn3]; simp)
            have HND3 : Hid ((K2 ++ List.range' a3 n3).Nodup) := hid (by have := HON3.out.2.2.2.2.2.2; rwa [HPCS.out] at this)
            have han3 : a3 + n3 ≤ W.length := by have := hon2.n; omega
            clear hon2 hnow2 hsl2 hmu2 hun2 hen hc2 hg2 hk2 hn2 hs htk q1 q2 q3 ha3 hn3
            go_wp2_with fail
            refine HTK.out.mono ?_
            rintro e w8 ⟨rfl, G3, c8, g8, m8⟩
            have K8 := hid (K7.out.mod m8 HMB.out)
            have N8 : Hid (New w w8) := hid (N7.out.trans' m8 (fun q hq e => HTT.out q hq (.inl e)))
            have C8 := hid c8; have G8 := hid g8
            clear c8 g8 m8
            go_wp2
            obtain ⟨w9, h9⟩ : ∃ w9, w9 = w8.alloc (.cells #[.int .i64 a3, .int .i64 n3] 34) := ⟨_, rfl⟩
            rw [← h9]
            have N89 : New w8 w9 := by rw [h9]; exact (Mod.refl _ _).alloc _
            have R9 : Hid (Blk w9 w8.heap.size #[.int .i64 a3, .int .i64 n3] 34) := hid (by rw [h9]; exact Blk.new _ _ _)
            have C9 := hid (C8.out.new N89); have K9 := hid (K8.out.new N89); have N9 : Hid (New w w9) := hid (N8.out.trans N89)
            have hRM : w8.heap.size ≠ M := by have h1 : M < w8.heap.size := MapL.lt K8.out; omega
            obtain ⟨R, hR⟩ : ∃ R, R = w8.heap.size := ⟨_, rfl⟩
            rw [← hR] at R9 hRM
            rw [← hR]
            clear h9 N89 C8 K8 N8 hR
            go_loopw [27] (fun x w' => ∃ j : Nat, x = .int .i64 ((a3 + j : Nat) : Int) ∧ j ≤ n3 ∧ CameAt w' M (K2 ++ List.range' a3 j) ∧ Mod (fun q => q = M) w9 w') (fun x _ => a3 + n3 - (intOf x).toNat)
            case atStart => exact ⟨0, by simp, by omega, by simpa using K9.out, Mod.refl _ _⟩
            case round =>
              obtain ⟨j2, rfl, hj2, hme, hmo⟩ := hrel
              have hD := hmo.blk R9.out hRM
              have d0 := hD.cellv 0 rfl; have d1 := hD.cellv 1 rfl; have dl := hD.lt
              have HMO2 := hid hmo
              have hwq2 : IntKind.i64.wrap ((a3 : Int) + (n3 : Int)) = (a3 : Int) + (n3 : Int) := by rw [IntKind.wrap_i64]; omega
              obtain ⟨q2, hq2⟩ : ∃ q2, q2 = a3 + j2 := ⟨_, rfl⟩
              rw [← hq2]
              have HQ2 := hid hq2
              by_cases hlt4 : j2 < n3
              · have hni := not_range _ _ _ HND3.out hlt4
                rw [← hq2] at hni
                have lk2 := came_no hme hni
                obtain ⟨wm, hup, hme2, hmo2⟩ := came_put hme hni
                rw [hq2, List.append_assoc, ← range_next] at hme2
                have HME3 := hid hme2; have HMO3 := hid (hmo.trans hmo2)
                have hlt5 : (q2 : Int) < (a3 : Int) + (n3 : Int) := by omega
                clear hme hmo hni hme2 hmo2 hD hq2
                go_wp2
                exact ⟨⟨j2 + 1, by have := HQ2.out; simp; omega, by omega, HME3.out, HMO3.out⟩, by have := HQ2.out; simp [intOf]; omega⟩
              · obtain rfl : j2 = n3 := by omega
                have hlt5 : ¬ (q2 : Int) < (a3 : Int) + (j2 : Int) := by omega
                have HME3 := hid hme
                clear hme hmo hD hq2
                go_wp2
                refine ⟨⟨m + 1, true, _, _, _, _, by simp, rfl, by omega, HON3.out.1, by rw [HON3.out.2.2.1]; omega, by rw [HON3.out.2.2.2.1]; exact HSL2.out, by have := HMU2.out; have := HON3.out.2.1; simp only [if_true]; omega, fun j t hj ht => ?_, fun q => (by cases q), C9.out.other HMO2.out (fun q e => by have e2 : q = M := e; rw [e2]; exact HMD.out), G8.out, by rw [HPCS.out]; exact HME3.out, N9.out.trans' HMO2.out (fun q hq e => by have e2 : q = M := e; omega)⟩, by simp [intOf]; omega⟩
                rcases Nat.lt_succ_iff_lt_or_eq.1 hj with q | q
                · obtain ⟨t2, ht2⟩ : ∃ t2, c2.seeds[j]? = some t2 := ⟨_, List.getElem?_eq_getElem (by have := HSL2.out; omega)⟩
                  have h3 := HON3.out.2.2.2.2.1 j t2 (by omega) ht2
                  rw [ht] at h3
                  cases h3
                  exact HUN2.out j _ q ht2
                · subst q
                  obtain ⟨t2, ht2, hu2⟩ := HON3.out.2.2.2.2.2.1
                  rw [ht] at ht2
                  cases ht2
                  exact hu2
          · have HTK := hid (ctook_no B SB cap MB ps c2 G2 now m wr hc2 htk)
            have HSU := hid (took_cannot hs (by have := hnow2.2; omega) htk)
            obtain ⟨E3, hE3⟩ : ∃ E3, E3 = c2.tookE now m := ⟨_, rfl⟩
            rw [← hE3] at HTK htk
            have hb3 : (E3 == 0) = false := by rw [beq_eq_false_iff_ne]; exact htk
            clear hon2 hnow2 hsl2 hmu2 hun2 hen hc2 hg2 hk2 hn2 hs htk hE3
            go_wp2_with fail
            refine HTK.out.mono ?_
            rintro e w8 ⟨rfl, n8⟩
            have N8 := hid (n8.alloc (.cells #[.int .i64 0, .int .i64 0] 34))
            clear n8
            go_wp2
            exact ⟨⟨m + 1, en, c2, G2, f2, K2, by simp, rfl, by omega, HON2.out, HNOW2.out, HSL2.out, HMU2.out, fun j t hj ht => by rcases Nat.lt_succ_iff_lt_or_eq.1 hj with q | q; exact HUN2.out j t q ht; subst q; have := HS.out; rw [ht] at this; cases this; exact HSU.out, HEN.out, C7.out.new N8.out, G7.out, K7.out.new N8.out, N7.out.trans N8.out⟩, by simp [intOf]; omega⟩
        · cases en with
          | true => 
            have hiW : i < 2 * W.length := by simp only [if_true] at hmu2; omega
            clear hon2 hnow2 hsl2 hmu2 hun2 hen hc2 hg2 hk2 hn2
            go_wp2
            exact ⟨⟨now + 1, i + 1, c2, G2, f2, K2, by simp, by simp, by omega, by have := HMU2.out; simp only [if_true] at this; omega, HON2.out, ⟨HNOW2.out.1, by have := HNOW2.out.2; omega⟩, HSL2.out, C7.out, G7.out, K7.out, N7.out⟩, by simp [intOf]; omega⟩
          | false =>
            obtain ⟨e1, e2⟩ := hen rfl
            subst e1 e2
            have HD := hid (HON2.out.done (now := now) ⟨HNOW2.out.2, by omega, by omega⟩ HOK.out (fun t ht => by
              obtain ⟨j, hj⟩ := List.getElem?_of_mem ht
              exact HUN2.out j t (by have := (List.getElem?_eq_some_iff.1 hj).1; have := HSL2.out; omega) hj))
            have HUD := hid (fun W' (n : New wr W') => cunder_any B SB cap MB ps c2 G2 W' (C7.out.new n))
            clear hon2 hnow2 hsl2 hmu2 hun2 hen hc2 hg2 hk2 hn2
            go_wp2
            obtain ⟨w7, h7⟩ : ∃ w7, w7 = wr := ⟨_, rfl⟩
            rw [← h7] at K7 N7 HUD
            rw [← h7]
            clear h7 C7
            go_loopw [201] (fun x w' => ∃ q : Nat, x = .int .i64 q ∧ q ≤ W.length ∧ w' = w7) (fun x _ => W.length - (intOf x).toNat)
            case atStart => exact ⟨0, rfl, by omega, rfl⟩
            case round =>
              obtain ⟨q, rfl, hq, rfl⟩ := hrel
              by_cases hlt2 : q < W.length
              · have g0 := New.cellv N7.out (HWC.out q hlt2)
                have gl : b1 < wr.heap.size := World.block_lt_of_cell? _ _ g0
                have hiff := HD.out.1 q hlt2
                cases hWq : W[q] with
                | true =>
                  rw [hWq] at g0
                  have lk := came_yes K7.out (hiff.2 (by rw [List.getElem?_eq_getElem hlt2, hWq]))
                  clear hiff hWq
                  go_wp2
                  exact ⟨⟨q + 1, by simp, by omega, trivial⟩, by simp [intOf]; omega⟩
                | false =>
                  rw [hWq] at g0
                  have lk := came_no K7.out (i := q) (fun z => by have := hiff.1 z; rw [List.getElem?_eq_getElem hlt2, hWq] at this; cases this)
                  clear hiff hWq
                  go_wp2
                  exact ⟨⟨q + 1, by simp, by omega, trivial⟩, by simp [intOf]; omega⟩
              · go_wp2_with fail
                refine (HUD.out _ (Mod.refl _ _)).mono ?_
                rintro e w8 ⟨v8, U, rfl, u1, u2, u3, n8⟩
                obtain ⟨ua, uc, rfl, u4, u5, u6⟩ := u3
                have hU0 : U = [] := by
                  rw [HD.out.2] at u1
                  exact List.Perm.eq_nil u1
                subst hU0
                have N8 : Hid (New w w8) := hid (N7.out.trans n8)
                clear u1 u2 u4 u5 u6 n8 HUD
                go_wp2_with fail
                refine (HAW.out _ N8.out).mono ?_
                rintro e w99 ⟨rfl, n9⟩
                have N99 := hid n9
                clear n9
                go_wp2
                go_ret
                exact ⟨rfl, (N8.out).trans N99.out⟩
end Go.Proofs.YtnhgichiedninaaGreatDoor.webOnce
