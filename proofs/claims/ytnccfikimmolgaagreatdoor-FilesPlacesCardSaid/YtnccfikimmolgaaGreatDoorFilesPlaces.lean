/-
  FilesPlaces returns true, for every input, its arguments as they were; the three tables of the library tied to the program's text. No condition but the row's own ('laid').
-/
import Derived.Test.YtnccfikimmolgaaGreatDoorM27
import Derived.Test.YtnccfikimmolgaaGreatDoorM50
import Derived.Test.YtnccfikimmolgaaGreatDoorM38
import Derived.Test.YtnccfikimmolgaaGreatDoorTie
import Derived.Test.YtnccfikimmolgaaGreatDoorCards
import Derived.SevenTiedAt
namespace Go.Proofs.YtnccfikimmolgaaGreatDoor.filesPlaces
set_option linter.unusedSimpArgs false
set_option linter.unusedVariables false
open Go.ChangeShapes Go.WideShapes Go.ChangeAt Go.RowKit Go.Deep

section
variable {H : Type} {enc : TypeId × Value → H} {w : World} {base : Nat} {spare : Nat → Bool} {held : Bool}
theorem open_intsX {fuel : Nat} {cs : List Value} {x : DataW H × List MemPlace} (h : DataW.trod enc Tryz.prog w base spare held fuel 23 cs = some x) : ∃ a c l, cs = [.slice a l.length c] ∧ IntsAt w a c l := by
  rcases open_ints Tryz.underlying23 Tryz.underlying3 (by kernel_rfl) h with ⟨hcs, -⟩ | ⟨a, len, cap, zs, hcs, -, hl, hc, hm, -, hx, -⟩
  · exact ⟨none, 0, [], hcs, IntsAt.nil _⟩
  · have hlm : len ≤ zs.length := by rw [hm]; split <;> omega
    have htl : (zs.take len).length = len := by simp; omega
    refine ⟨some a, cap, zs.take len, by rw [htl]; exact hcs, by rw [htl]; exact hl, hc, ?_⟩
    by_cases hz : len = 0
    · exact .inl (by simp [hz])
    · have h0 := hx 0 (by omega)
      obtain ⟨b, o, sp⟩ := a
      have hs : sp = none := cell_spot h0
      subst hs
      refine .inr ⟨b, o, rfl, World.block_lt_of_cell? _ _ h0, fun i y hy => ?_⟩
      rw [List.getElem?_take] at hy
      split at hy
      · have hi := (List.getElem?_eq_some_iff.1 hy).1
        have e := (List.getElem?_eq_some_iff.1 hy).2
        have := hx i hi
        rw [add_none] at this
        rw [this]
        simp [List.getD, List.getElem?_eq_getElem hi, e]
      · cases hy
end

set_option maxRecDepth 100000 in
set_option maxHeartbeats 2000000 in
theorem eqints_any (a b : Option Addr) (c d : Nat) (S : List Int) (w : World) (h : IntsAt w a c S) (k : IntsAt w b d S) :
    Calls Tryz.prog 13 #[.slice a S.length c, .slice b S.length d] w fun e w' => e = .returned (.bool true) ∧ New w w' := by
  have hr := h.room; have hc := h.cap; have kr := k.room; have kc := k.cap
  unfold maxLen at hc kc
  have HI := hid h; have HK := hid k
  clear h k
  go_enter Tryz.func13, Tryz.ntmps13
  go_wp2
  go_loopw [13] (fun i wr => ∃ (j : Nat), i = .int .i64 j ∧ j ≤ S.length ∧ New w wr) (fun i _ => S.length - (intOf i).toNat)
  case atStart => exact ⟨0, rfl, by omega, Mod.refl _ _⟩
  case round =>
    obtain ⟨j, rfl, hj, hn⟩ := hrel
    have HN := hid hn
    by_cases hlt : j < S.length
    · obtain ⟨b1, o1, rfl, hb1, hc1⟩ := HI.out.get (by omega)
      obtain ⟨b2, o2, rfl, hb2, hc2⟩ := HK.out.get (by omega)
      have g0 := hn.cellv (hc1 j hlt)
      have g1 := hn.cellv (hc2 j hlt)
      obtain ⟨x, hx⟩ : ∃ x, x = S[j] := ⟨_, rfl⟩
      rw [← hx] at g0 g1
      have hbw1 : b1 < wr.heap.size := by have := hn.size; omega
      have hbw2 : b2 < wr.heap.size := by have := hn.size; omega
      have hjI : (j : Int) < (S.length : Int) := by omega
      clear hc1 hc2 hx hn
      go_wp2
      go_region_held3 (fun w' => w'.cell? ⟨b1, o1 + j, none⟩ = some (.int .i64 x) ∧ w'.cell? ⟨b2, o2 + j, none⟩ = some (.int .i64 x)) (go_keep) (fail)
      go_wp2
      go_roundw
      case rel => exact ⟨j + 1, by simp, by omega, HN.out.drew⟩
      case measure => simp [intOf]; omega
    · clear hn
      go_wp2
      go_ret
      exact ⟨rfl, HN.out⟩
theorem place_ok {l : List FileV} {piece file at' : Int} {new : Bool} (h : placeErr l piece new file at' = 0) :
    spansErr l piece new (placeI l piece new file at') = 0 ∧ findIn file at' (spansRes l piece new (placeI l piece new file at')) 0 = some (placeB l piece new file at') ∧ (∀ s ∈ spansRes l piece new (placeI l piece new file at'), 0 ≤ s.frm ∧ 0 ≤ s.cnt ∧ s.frm + s.cnt ≤ 65536) ∧ 0 ≤ at' ∧ at' ≤ 65536 := by
  have hh := h
  unfold placeErr at hh
  split at hh
  · next hb =>
    obtain ⟨hv, hpp⟩ := way_ok hb
    obtain ⟨v1, v2, v3, v4⟩ := valid_facts hv
    have v5 := each_len v3
    obtain ⟨p1, p2⟩ := piece_range hpp
    have v6 : ∀ f ∈ l, 0 ≤ f.len ∧ f.len ≤ 65536 := fun f hf => ⟨v3 f hf, by have := v5 f hf; omega⟩
    cases hx : fileIx l file with
    | none => rw [hx] at hh; cases hh
    | some f =>
      rw [hx] at hh
      simp only at hh
      split at hh
      · next ha =>
        split at hh
        · cases hh
        · next hq =>
          have hq : (new && f.pad) = false := by simpa using hq
          obtain ⟨k, rfl, hk, rfl⟩ := fileIx_some hx
          have hbd := atI_bd (piece := piece) (new := new) (by omega) v3 hk ha.1 ha.2 hq
          have e1 : placeI l piece new k at' = atI l piece new k at' := by rw [placeI, if_pos h, Int.toNat_natCast]
          have e2 : placeB l piece new k at' = atB l piece new k at' := by rw [placeB, if_pos h, Int.toNat_natCast]
          rw [e1, e2]
          have e3 : spansErr l piece new (atI l piece new k at') = 0 := by
            simp only [spansErr, hb, if_true, show ¬ (atI l piece new k at' < 0 ∨ piecesOf l piece new ≤ atI l piece new k at') by omega, if_false]
          have e4 : spansRes l piece new (atI l piece new k at') = spansOf l piece new (atI l piece new k at') := by simp [spansRes, e3]
          rw [e4]
          refine ⟨e3, ?_, span_fits (by omega) v6 hbd.1, ha.1, by have := (v6 _ (List.getElem_mem hk)).2; omega⟩
          rw [span_find (by omega) v3 hk ha.1 ha.2 hq _ hbd.1, if_pos rfl]
      · cases hh
  · next hb => exact absurd hh hb
set_option maxRecDepth 100000 in
set_option maxHeartbeats 8000000 in
theorem law_any (a sa : Option Addr) (c sc : Nat) (l : List FileV) (piece : Int) (new : Bool) (file at' : Int) (ks : List Int) (w : World) (h : FilesAt w a c l) (hk : IntsAt w sa sc ks) (ht : Tab w) (h0 : -9223372036854775808 ≤ piece) (h1 : piece ≤ 9223372036854775807) :
    Calls Tryz.prog 3 #[.slice a l.length c, .int .i64 piece, .bool new, .int .i64 file, .int .i64 at', .slice sa ks.length sc] w fun e w' => e = .returned (.bool true) ∧ New w w' := by
  have HSM := hid (small_any a c l w h)
  have HA := hid (fun W (n : New w W) => awake_any W (ht.new n))
  have HW := hid (fun W (n : New w W) => Where_any a c l piece file at' new W (h.new n) (ht.new n) h0 h1)
  have HRW := hid (fun W (n : New w W) => rWhere_any a c l piece file at' new W (h.new n) h0 h1)
  have HO := hid (fun W (n : New w W) => Of_any a c l piece file new W (h.new n) (ht.new n) h0 h1)
  have HRO := hid (fun W (n : New w W) => rOf_any a c l piece file new W (h.new n) h0 h1)
  have HC := hid (fun (q : ks.length ≤ 60) W (n : New w W) => Cover_any a sa c sc l ks piece new W (h.new n) (hk.new n) q (ht.new n) h0 h1)
  have HRC := hid (fun W (n : New w W) => rCover_any a sa c sc l ks piece new W (h.new n) (hk.new n) h0 h1)
  have HSP := hid (fun W (n : New w W) => Spans_any a c l piece (placeI l piece new file at') new W (h.new n) (ht.new n) h0 h1)
  have HPK := hid (fun q => place_ok (l := l) (piece := piece) (new := new) (file := file) (at' := at') q)
  have HRB := hid (res_bounds (l := l) (piece := piece) (new := new) (i := placeI l piece new file at'))
  have HEQ := hid (fun a b c d (S : List Int) W (h : IntsAt W a c S) (k : IntsAt W b d S) => eqints_any a b c d S W h k)
  have hkr := hk.room; have hkc := hk.cap
  unfold maxLen at hkc
  clear h hk ht
  obtain ⟨PI, hPI⟩ : ∃ x, x = placeI l piece new file at' := ⟨_, rfl⟩
  obtain ⟨PB, hPB⟩ : ∃ x, x = placeB l piece new file at' := ⟨_, rfl⟩
  obtain ⟨PE, hPE⟩ : ∃ x, x = placeErr l piece new file at' := ⟨_, rfl⟩
  obtain ⟨OF, hOF⟩ : ∃ x, x = ofF l piece new file := ⟨_, rfl⟩
  obtain ⟨OC, hOC⟩ : ∃ x, x = ofC l piece new file := ⟨_, rfl⟩
  obtain ⟨OE, hOE⟩ : ∃ x, x = ofErr l piece file := ⟨_, rfl⟩
  obtain ⟨CL, hCL⟩ : ∃ x, x = coverL l piece new ks := ⟨_, rfl⟩
  obtain ⟨CE, hCE⟩ : ∃ x, x = coverErr l piece ks := ⟨_, rfl⟩
  rw [← hPI, ← hPB, ← hPE] at HW HRW HPK
  rw [← hPI] at HSP HRB
  rw [← hOF, ← hOC, ← hOE] at HO HRO
  rw [← hCL, ← hCE] at HC HRC
  obtain ⟨S, hS⟩ : ∃ x, x = spansRes l piece new PI := ⟨_, rfl⟩
  obtain ⟨SE, hSE⟩ : ∃ x, x = spansErr l piece new PI := ⟨_, rfl⟩
  rw [← hS, ← hSE] at HSP HPK
  rw [← hS] at HRB
  clear hPI hPB hPE hOF hOC hOE hCL hCE hS hSE
  go_enter Tryz.func3, Tryz.ntmps3
  go_wp2_with fail
  refine HSM.out.mono ?_
  rintro e w1 ⟨⟨v, rfl⟩, n1⟩
  have N1 := hid n1
  clear n1
  cases v with
  | false =>
    go_wp2_with fail
    refine (HA.out _ N1.out).mono ?_
    rintro e w99 ⟨rfl, n9⟩
    have N99 := hid n9
    clear n9
    go_wp2
    go_ret
    exact ⟨rfl, (N1.out).trans N99.out⟩
  | true =>
    by_cases h60 : 60 < ks.length
    · go_wp2_with fail
      refine (HA.out _ N1.out).mono ?_
      rintro e w99 ⟨rfl, n9⟩
      have N99 := hid n9
      clear n9
      go_wp2
      go_ret
      exact ⟨rfl, (N1.out).trans N99.out⟩
    have hq60 : ks.length ≤ 60 := by omega
    go_wp2_with fail
    refine (HW.out _ N1.out).mono ?_
    rintro e w2 ⟨rfl, n2⟩
    have N2 := hid (N1.out.trans n2)
    clear n2
    go_wp2_with fail
    refine (HRW.out _ N2.out).mono ?_
    rintro e w3 ⟨rfl, n3⟩
    have N3 := hid (N2.out.trans n3)
    clear n3
    go_wp2_with fail
    refine (HO.out _ N3.out).mono ?_
    rintro e w4 ⟨rfl, n4⟩
    have N4 := hid (N3.out.trans n4)
    clear n4
    go_wp2_with fail
    refine (HRO.out _ (N4.out.alloc _)).mono ?_
    rintro e w5 ⟨rfl, n5⟩
    have N5 := hid ((N4.out.alloc _).trans n5)
    have B5 := hid (n5.blk (Blk.new w4 #[.int .i64 OF, .int .i64 OC] 30))
    have z5 := n5.size
    clear n5
    go_wp2_with fail
    refine (HC.out hq60 _ (N5.out.alloc _)).mono ?_
    rintro e w6 ⟨⟨pa, pc, rfl, i6⟩, n6⟩
    have N6 := hid ((N5.out.alloc _).trans n6)
    have B6 := hid (n6.blk (B5.out.alloc _))
    have C6 := hid (n6.blk (Blk.new w5 #[.int .i64 OF, .int .i64 OC] 30))
    have I6 := hid i6
    clear n6 i6
    go_wp2_with fail
    refine (HRC.out _ N6.out).mono ?_
    rintro e w7 ⟨⟨qa, qc, rfl, i7⟩, n7⟩
    have N7 := hid (N6.out.trans n7)
    have B7 := hid (n7.blk B6.out)
    have C7 := hid (n7.blk C6.out)
    have I7 := hid i7
    have J7 := hid (I6.out.new n7)
    clear n7 i7
    have b0 := B7.out.cellv 0 rfl; have b1 := B7.out.cellv 1 rfl
    have c0 := C7.out.cellv 0 rfl; have c1 := C7.out.cellv 1 rfl
    go_wp2_with fail
    refine (HEQ.out _ _ _ _ _ _ J7.out I7.out).mono ?_
    rintro e w8 ⟨rfl, n8⟩
    have N8 := hid (N7.out.trans n8)
    clear n8 b0 b1 c0 c1
    by_cases hpe : PE = 0
    · obtain ⟨k1, k2, k3, k4, k5⟩ := HPK.out hpe
      subst hpe k1
      have HF0 := hid k2; have HFF := hid k3
      have HCB := hid (fun i => cnt_take HRB.out.1 i)
      have hrb2 := HRB.out.2
      clear k2 k3
      go_wp2_with fail
      refine (HSP.out _ N8.out).mono ?_
      rintro e w9 ⟨ra, rc, rfl, s9, n9⟩
      have N9 := hid (N8.out.trans n9)
      have S9 := hid s9
      have hsr := s9.room; have hsc := s9.cap
      unfold maxLen at hsc
      clear n9 s9
      go_wp2
      go_loopw [140, 29, 30] (fun x nn ff wr => ∃ (i : Nat) (n : Int) (fd : Bool), x = .int .i64 i ∧ nn = .int .i64 n ∧ ff = .bool fd ∧ i ≤ S.length ∧ n = cntOf (S.take i) ∧ (fd = true ∨ findIn file at' (S.drop i) n = some PB) ∧ 0 ≤ n ∧ n ≤ 65536 ∧ New w9 wr) (fun x _ _ _ => S.length - (intOf x).toNat)
      case atStart => exact ⟨0, 0, false, rfl, rfl, rfl, by omega, by simp [cntOf], .inr (by simpa using HF0.out), by omega, by omega, Mod.refl _ _⟩
      case round =>
        obtain ⟨i, n, fd, rfl, rfl, rfl, hi, hnc, hfd, hn0, hn1, hn⟩ := hrel
        have HNC := hid hnc; have HFD := hid hfd
        clear hnc hfd
        by_cases hlt : i < S.length
        · obtain ⟨b3, o3, rfl, hb3, hc3⟩ := S9.out.get (by omega)
          obtain ⟨g0, g1, g2⟩ := hc3 i hlt
          have g0 := hn.cellv g0; have g1 := hn.cellv g1; have g2 := hn.cellv g2
          have hcx := cnt_next hlt
          have hcb := HCB.out (i + 1)
          have hfit := HFF.out _ (List.getElem_mem hlt)
          rw [List.drop_eq_getElem_cons hlt] at HFD
          obtain ⟨s, hs⟩ : ∃ s, s = S[i] := ⟨_, rfl⟩
          rw [← hs] at g0 g1 g2 hcx hfit HFD
          rw [← HNC.out] at hcx
          have hbw3 : b3 < wr.heap.size := by have := hn.size; omega
          have HN := hid hn
          clear hc3 hs hn
          obtain ⟨sf, sr, sc3⟩ := s
          simp only at g0 g1 g2 hcx hfit
          obtain ⟨t0, t1, t2⟩ := hfit
          have hx : n + sc3 ≤ 65536 := by omega
          have HCX := hid hcx
          clear hcx hcb
          by_cases hm : sf = file ∧ sr ≤ at' ∧ at' < sr + sc3
          · rw [findIn, if_pos hm] at HFD
            obtain ⟨rfl, m1, m2⟩ := hm
            have e1 : decide (sr ≤ at') = true := decide_eq_true m1
            have e2 : decide (at' < sr + sc3) = true := decide_eq_true m2
            by_cases hpb : n + at' - sr = PB
            · have e3 : ((n + at' - sr) == PB) = true := by simpa using hpb
              clear hpb
              go_wp2
              go_roundw
              case rel => exact ⟨i + 1, n + sc3, true, by simp, rfl, rfl, by omega, HCX.out.symm, .inl rfl, by omega, hx, HN.out.alloc _⟩
              case measure => simp [intOf]; omega
            · have hfd : fd = true := by
                rcases HFD.out with q | q
                · exact q
                · exact absurd (Option.some.inj q) hpb
              subst hfd
              have e3 : ((n + at' - sr) == PB) = false := by simpa using hpb
              clear hpb HFD
              go_wp2
              go_roundw
              case rel => exact ⟨i + 1, n + sc3, true, by simp, rfl, rfl, by omega, HCX.out.symm, .inl rfl, by omega, hx, HN.out.alloc _⟩
              case measure => simp [intOf]; omega
          · rw [findIn, if_neg hm] at HFD
            have hor : sf ≠ file ∨ (sf = file ∧ at' < sr) ∨ (sf = file ∧ sr ≤ at' ∧ sr + sc3 ≤ at') := by omega
            clear hm
            rcases hor with q1 | ⟨rfl, q2⟩ | ⟨rfl, q2, q3⟩
            · have e1 : (sf == file) = false := by simpa using q1
              clear q1
              go_wp2
              go_roundw
              case rel => exact ⟨i + 1, n + sc3, fd, by simp, rfl, rfl, by omega, HCX.out.symm, HFD.out, by omega, hx, HN.out.alloc _⟩
              case measure => simp [intOf]; omega
            · have e1 : decide (sr ≤ at') = false := decide_eq_false (by omega)
              go_wp2
              go_roundw
              case rel => exact ⟨i + 1, n + sc3, fd, by simp, rfl, rfl, by omega, HCX.out.symm, HFD.out, by omega, hx, HN.out.alloc _⟩
              case measure => simp [intOf]; omega
            · have e1 : decide (sr ≤ at') = true := decide_eq_true q2
              have e2 : decide (at' < sr + sc3) = false := decide_eq_false (by omega)
              go_wp2
              go_roundw
              case rel => exact ⟨i + 1, n + sc3, fd, by simp, rfl, rfl, by omega, HCX.out.symm, HFD.out, by omega, hx, HN.out.alloc _⟩
              case measure => simp [intOf]; omega
        · have hil : S.drop i = [] := List.drop_eq_nil_of_le (by omega)
          have hfd : fd = true := by
            rcases HFD.out with q | q
            · exact q
            · rw [hil, findIn] at q
              cases q
          subst hfd
          have HN := hid (N9.out.trans hn)
          clear hil hn
          go_wp2_with fail
          refine (HA.out _ HN.out).mono ?_
          rintro e w99 ⟨rfl, n9⟩
          have N99 := hid n9
          clear n9
          go_wp2
          go_ret
          exact ⟨rfl, (HN.out).trans N99.out⟩
    · have hpe1 : (PE == 0) = false := by simpa using hpe
      have hpe2 : (PE != 0) = true := by simpa using hpe
      clear hpe
      go_wp2_with fail
      refine (HA.out _ N8.out).mono ?_
      rintro e w99 ⟨rfl, n9⟩
      have N99 := hid n9
      clear n9
      go_wp2
      go_ret
      exact ⟨rfl, (N8.out).trans N99.out⟩
set_option maxRecDepth 100000 in
theorem lifted (os : Os) (started : os.Started) (H : Type) (enc : TypeId × Value → H) :
    ReturnsInHanded {} Tryz.checked os 3 .any (fun w args => (Rows.filesPlacesSpec.pre enc Tryz.prog Tryz.f3 [] false w args ∧ laidMetH Tryz.prog tables w) ∧ sizedMet enc Tryz.prog Tryz.f3 (OpenSpec.ofChange Rows.filesPlacesSpec) false w args)
      (Rows.filesPlacesSpec.post enc Tryz.prog Tryz.f3 false true false false) := by
  refine returnsInHanded_of_change_and (C := Tryz.checked) (X := fun w _ => laidMetH Tryz.prog tables w) (fun _ _ _ hh h => h.of_heap hh) own started (by kernel_rfl) Tryz.func3
    (ChangeSpec.witness_shaped (enc := enc) (C := Tryz.checked) (os := os) (X := fun w _ => laidMetH Tryz.prog tables w) false (World.doorLaid Tryz.prog 24 os) #[.slice none 0 0, .int .i64 0, .bool false, .int .i64 0, .int .i64 0, .slice none 0 0] 8 rfl (World.shaped_of_RefB (by kernel_rfl) (by kernel_rfl)) (by kernel_rfl) (by kernel_rfl) (by kernel_rfl) (door_met os _)) ?_
  intro W base args ds gs before hval0 hW _ _ hL _
  have hval : ∀ (j : Nat) t v, Tryz.f3.params[j]? = some t → args[j]? = some v → Value.okWide Tryz.prog W .any base t v := hval0
  have hW' := hW
  obtain ⟨p, q, hA0, hV, rfl, hfz, hnd⟩ := hW
  have hA : DataW.TrodAll enc Tryz.prog W 0 (fun _ => true) true Tryz.f3.params.toList args.toList ds p := hA0
  rw [Tryz.params3] at hA hval
  obtain ⟨v0, vs0, d0, ds0, p0, q0, hargs, rfl, rfl, h0, r0⟩ := trodAll_cons hA
  obtain ⟨v1, vs1, d1, ds1, p1, q1, rfl, rfl, rfl, h1, r1⟩ := trodAll_cons r0
  obtain ⟨v2, vs2, d2, ds2, p2, q2, rfl, rfl, rfl, h2, r2⟩ := trodAll_cons r1
  obtain ⟨v3, vs3, d3, ds3, p3, q3, rfl, rfl, rfl, h3, r3⟩ := trodAll_cons r2
  obtain ⟨v4, vs4, d4, ds4, p4, q4, rfl, rfl, rfl, h4, r4⟩ := trodAll_cons r3
  obtain ⟨v5, vs5, d5, ds5, p5, q5, rfl, rfl, rfl, h5, r5⟩ := trodAll_cons r4
  obtain ⟨rfl, rfl, rfl⟩ := trodAll_nil r5
  obtain rfl : args = #[v0, v1, v2, v3, v4, v5] := by cases args; simp_all
  obtain ⟨rfl, rfl⟩ := trodVars_none hV
  have k0 := h0
  have k1 := h1
  have k2 := h2
  have k3 := h3
  have k4 := h4
  have k5 := h5
  have lt0 : ∀ x ∈ p0, x.block < W.heap.size := by obtain ⟨m, hm⟩ := k0; exact DataW.trod_lt m _ _ _ hm
  have lt1 : ∀ x ∈ p1, x.block < W.heap.size := by obtain ⟨m, hm⟩ := k1; exact DataW.trod_lt m _ _ _ hm
  have lt2 : ∀ x ∈ p2, x.block < W.heap.size := by obtain ⟨m, hm⟩ := k2; exact DataW.trod_lt m _ _ _ hm
  have lt3 : ∀ x ∈ p3, x.block < W.heap.size := by obtain ⟨m, hm⟩ := k3; exact DataW.trod_lt m _ _ _ hm
  have lt4 : ∀ x ∈ p4, x.block < W.heap.size := by obtain ⟨m, hm⟩ := k4; exact DataW.trod_lt m _ _ _ hm
  have lt5 : ∀ x ∈ p5, x.block < W.heap.size := by obtain ⟨m, hm⟩ := k5; exact DataW.trod_lt m _ _ _ hm
  obtain ⟨a_l, len_l, c_l, rfl⟩ := okWide_slice Tryz.underlying22 (hval 0 22 v0 rfl rfl)
  obtain ⟨l, hlen_l, h_l⟩ : ∃ l, l.length = len_l ∧ FilesAt W a_l c_l l := by
    obtain ⟨fuel, hf⟩ := h0
    obtain ⟨a', c', l, hcs, hfa⟩ := open_files hf
    simp [Value.cells] at hcs
    obtain ⟨rfl, rfl, rfl⟩ := hcs
    exact ⟨l, rfl, hfa⟩
  subst hlen_l
  obtain ⟨piece, rfl, -, -, w_piece⟩ := open_int Tryz.underlying3 (hval 1 3 v1 rfl rfl) h1
  obtain ⟨lo_piece, hi_piece⟩ := wf_bounds w_piece
  obtain ⟨new, rfl, -⟩ := open_bool Tryz.underlying4 (hval 2 4 v2 rfl rfl) h2
  obtain ⟨file, rfl, -, -, w_file⟩ := open_int Tryz.underlying3 (hval 3 3 v3 rfl rfl) h3
  obtain ⟨lo_file, hi_file⟩ := wf_bounds w_file
  obtain ⟨at', rfl, -, -, w_at'⟩ := open_int Tryz.underlying3 (hval 4 3 v4 rfl rfl) h4
  obtain ⟨lo_at', hi_at'⟩ := wf_bounds w_at'
  obtain ⟨a_ks, len_ks, c_ks, rfl⟩ := okWide_slice Tryz.underlying23 (hval 5 23 v5 rfl rfl)
  obtain ⟨ks, hlen_ks, h_ks⟩ : ∃ ks, ks.length = len_ks ∧ IntsAt W a_ks c_ks ks := by
    obtain ⟨fuel, hf⟩ := h5
    obtain ⟨a', c', l, hcs, hfa⟩ := open_intsX hf
    simp [Value.cells] at hcs
    obtain ⟨rfl, rfl, rfl⟩ := hcs
    exact ⟨l, rfl, hfa⟩
  subst hlen_ks
  have ht := tab_of hL
  clear hA0 hval0
  refine (law_any a_l a_ks c_l c_ks l piece new file at' ks W h_l h_ks ht lo_piece hi_piece).mono fun e W' ⟨he, hn⟩ => ?_
  subst he
  have bel : Below W.heap.size W W' := hn.below _ (Nat.le_refl _) (fun _ _ x => x)
  exact ⟨_, rfl, _, _, _, [], _, [], hW', trodAll_mk1 (shut_bool Tryz.underlying4 _), (trodAll_cons_mk (Below.trod laidOut (by kernel_rfl) (of_decide_eq_true (by kernel_rfl)) k0 bel lt0) (trodAll_cons_mk (Below.trod laidOut (by kernel_rfl) (of_decide_eq_true (by kernel_rfl)) k1 bel lt1) (trodAll_cons_mk (Below.trod laidOut (by kernel_rfl) (of_decide_eq_true (by kernel_rfl)) k2 bel lt2) (trodAll_cons_mk (Below.trod laidOut (by kernel_rfl) (of_decide_eq_true (by kernel_rfl)) k3 bel lt3) (trodAll_cons_mk (Below.trod laidOut (by kernel_rfl) (of_decide_eq_true (by kernel_rfl)) k4 bel lt4) (trodAll_cons_mk (Below.trod laidOut (by kernel_rfl) (of_decide_eq_true (by kernel_rfl)) k5 bel lt5) trodAll_mk0)))))), rfl, bel.frame _, fun h => by cases h⟩

theorem over : Rows.FilesPlacesSaid :=
  OpenClaim.holds_of_wide 3 Tryz.f3 rfl rfl rfl rfl rfl rfl rfl ⟨rfl, rfl, rfl, rfl, rfl⟩ rfl rfl rfl rfl rfl (by kernel_rfl) Tryz.func3 (by kernel_rfl)
    (of_decide_eq_true (by kernel_rfl)) (by unfold Func.isWrapper; first | (rw [if_pos (by decide +kernel)]; kernel_rfl) | (rw [if_neg (by decide +kernel)]; exact ⟨rfl, rfl⟩))
    (fun os started H enc _ => lifted os started H enc)

theorem proved : Rows.FilesPlacesCardSaid :=
  Claim7.holds_tied_plain_at .later [] [.data, .data, .data] true Rows.filesPlacesCard.stood.harness true
    over (fun _ h => by cases h) (by kernel_rfl) (fun _ h => by cases h) filesPlaces_row_tie rfl ⟨rfl, rfl⟩ (by kernel_rfl) rfl
    (fun f fn hf hfn => by
      obtain rfl : f = 3 := Option.some.inj ((show Tryz.prog.funcNamed "covey/coveylaw05.FilesPlaces" = some 3 by kernel_rfl).symm.trans hf) |>.symm
      obtain rfl : fn = Tryz.f3 := (Option.some.inj (Tryz.func3.symm.trans hfn)).symm
      exact ⟨by kernel_rfl, fun j t ht => by
        rw [Tryz.params3] at ht
        have hm : t ∈ [22, 3, 4, 3, 3, 23] := by simpa using Array.mem_of_getElem? ht
        have hall : ([22, 3, 4, 3, 3, 23].all fun u => !Tryz.prog.wantsStandIn u) = true := by kernel_rfl
        exact (show Tryz.prog.wantsStandIn t = false by simpa using List.all_eq_true.1 hall t hm)⟩)
    (by kernel_rfl)
#print axioms proved
end Go.Proofs.YtnccfikimmolgaaGreatDoor.filesPlaces
