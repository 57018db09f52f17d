/-
  The walk of the reference's Find. Conditions: the chance is a slice of bools that lies in memory.
-/
import Derived.Test.YtakglmdpaaiclaaLa
import Derived.Test.YtakglmdpaaiclaaStepsM
namespace Go.Proofs.Ytakglmdpaaiclaa
set_option linter.unusedSimpArgs false
set_option linter.unusedVariables false
open Go.RowKit


set_option maxHeartbeats 1000000 in
theorem rfind_bad (low high bound : Int) (ca : Option Addr) (cn cc : Nat) (w : World) (hr : right low high = false ∨ bound < 0 ∨ 10000 < bound) :
    Calls Try.prog 9 #[.int .i64 low, .int .i64 high, .int .i64 bound, .slice ca cn cc] w fun e w' => e = .returned (.tuple #[.int .i64 0, .int .i64 0, .int .i64 7]) ∧ New w w' := by
  have hrt := right_any low high w
  cases hq : right low high with
  | false =>
    rw [hq] at hrt
    have HRT := hid hrt
    clear hrt hq hr
    go_enter Try.func9, Try.ntmps9
    go_wp2_with (go_at_call 11; refine HRT.out.mono ?_; rintro e w' ⟨rfl, rfl⟩)
    go_ret3
    exact ⟨rfl, Mod.refl _ _⟩
  | true =>
    rw [hq] at hrt hr
    have HRT := hid hrt
    clear hrt hq
    by_cases hb : bound < 0
    · clear hr
      go_enter Try.func9, Try.ntmps9
      go_wp2_with (go_at_call 11; refine HRT.out.mono ?_; rintro e w' ⟨rfl, rfl⟩)
      go_ret3
      exact ⟨rfl, Mod.refl _ _⟩
    · have hb2 : 10000 < bound := by
        rcases hr with h | h | h
        · cases h
        · omega
        · exact h
      clear hr
      go_enter Try.func9, Try.ntmps9
      go_wp2_with (go_at_call 11; refine HRT.out.mono ?_; rintro e w' ⟨rfl, rfl⟩)
      go_ret3
      exact ⟨rfl, Mod.refl _ _⟩

set_option maxRecDepth 100000 in
set_option maxHeartbeats 4000000 in
theorem rfind_any (low high bound : Int) (ca : Option Addr) (cn cc : Nat) (ch : List Bool) (w : World) (hr : right low high = true) (hb : 0 ≤ bound ∧ bound ≤ 10000) (hc : BoolsAt w (.slice ca cn cc) ch) :
    Calls Try.prog 9 #[.int .i64 low, .int .i64 high, .int .i64 bound, .slice ca cn cc] w fun e w' => e = .returned (.tuple #[.int .i64 (findRun bound ch 1000 (newSt low high)).1, .int .i64 (findRun bound ch 1000 (newSt low high)).2.1, .int .i64 (findRun bound ch 1000 (newSt low high)).2.2]) ∧ New w w' := by
  have hrt := right_any low high w
  rw [hr] at hrt
  have HRT := hid hrt
  have HR := hid hr
  have HC := hid hc
  clear hrt hr hc
  obtain ⟨hb1, hb2⟩ := hb
  obtain ⟨x, hx⟩ : ∃ x, findRun bound ch 1000 (newSt low high) = x := ⟨_, rfl⟩
  rw [hx]
  have HX := hid hx
  clear hx
  go_enter Try.func9, Try.ntmps9
  go_wp2_with (first | (go_at_call 11; refine HRT.out.mono ?_; rintro e w' ⟨rfl, rfl⟩) | (go_at_call 19; refine (rnew_ok _ _ _ HR.out).mono ?_; rintro e w1 ⟨rfl, hB1, hN1⟩; have HN1 := hid hN1; have HB1 := hid hB1; clear hN1 hB1))
  go_loopw [16] (fun _ wr => ∃ s : St, RB wr w.heap.size s ∧ s.At ∧ s.count ≤ 1000 ∧ findRun bound ch (1000 - s.count).toNat s = x ∧ New w wr) (fun _ wr => match wr.cell? ⟨w.heap.size, 7, none⟩ with | some v => (1000 - intOf v).toNat | none => 0)
  case atStart =>
    have h0 := (new_fields low high).2.2.2.2.2
    exact ⟨newSt low high, HB1.out, at_new low high HR.out, by omega, by rw [h0]; exact HX.out, HN1.out⟩
  case round =>
    obtain ⟨s, hB, hat, hcnt, hrun, hN⟩ := hrel
    have HB := hid hB; have HAT := hid hat; have HRUN := hid hrun; have HN := hid hN
    have c7 : wr.cell? ⟨w.heap.size, 7, none⟩ = some (.int .i64 s.count) := Blk.cellv hB 7 rfl
    have hc0 := hat.ok.c1
    have hblt := Blk.lt hB
    clear hB hat hrun hN
    cases ho : s.over with
    | true =>
      have hst : s.state = 2 := by
        have := HAT.out.now; have := HAT.out.ok.s1
        unfold St.state
        rw [if_pos ho, if_neg (by omega)]
      have HO := hid ho
      have HST := hid hst
      clear ho hst
      go_wp2_with (go_at_call 32; refine (rState_any _ s _ HAT.out.ok HB.out).mono ?_; rw [HST.out]; rintro e w3 ⟨rfl, sn⟩; have SN := hid sn; clear sn; obtain ⟨d0, d1, d2, d3, d4, d5, d6, d7, d8, d9, df, dlt⟩ := rrow_cells (SN.out.blk HB.out))
      go_region
      all_goals go_wp2
      all_goals go_ret3
      all_goals refine ⟨?_, ?_⟩
      · have := HRUN.out
        rw [over_all _ _ _ HO.out] at this
        rw [← this]; rfl
      · have hnn := Mod.trans HN.out SN.out
        repeat (first | with_reducible exact hnn | with_reducible refine Mod.alloc ?_ _ | with_reducible refine Mod.drew ?_ | with_reducible refine Mod.drewN ?_ _ | (with_reducible refine Mod.set ?_ _ _ (by first | exact .inl rfl | (right; omega) | (right; simp; done) | (right; simp; omega) | (left; omega) | (left; simp; done) | (left; simp; omega))) | (with_reducible refine Mod.putObj ?_ _ _ (by first | exact .inl rfl | (right; omega) | (right; simp; done) | (right; simp; omega) | (left; omega) | (left; simp; done) | (left; simp; omega))))
    | false =>
      have hst : s.state = 0 := by unfold St.state; simp [ho]
      have HO := hid ho
      have HST := hid hst
      clear ho hst
      by_cases hlim : s.count = 1000
      · have hl' : (s.count == 1000) = true := by simp [hlim]
        have HL := hid hlim
        clear hlim
        go_wp2_with (go_at_call 32; refine (rState_any _ s _ HAT.out.ok HB.out).mono ?_; rw [HST.out]; rintro e w3 ⟨rfl, sn⟩; have SN := hid sn; clear sn; have d7 : w3.cell? ⟨w.heap.size, 7, none⟩ = some (.int .i64 s.count) := Blk.cellv (SN.out.blk HB.out) 7 rfl)
        go_ret3
        refine ⟨?_, Mod.trans HN.out SN.out⟩
        have := HRUN.out
        rw [findRun_limit _ _ _ HO.out HL.out] at this
        rw [← this]; rfl
      · have hl' : (s.count == 1000) = false := by simp [hlim]
        have hlt : s.count < 1000 := by omega
        obtain ⟨ha1, ha2⟩ := step_at bound ch s HAT.out HO.out (by omega)
        have hrun' := findRun_step bound ch s HO.out hc0 hlt ha2
        rw [HRUN.out] at hrun'
        have HI := hid (And.intro ha1 (And.intro ha2 hrun'))
        have htok := asks_ok s HAT.out HO.out (by omega)
        have hcs : (s.asks 0).count = s.count + 1 := rfl
        have hle : (s.asks 0).count ≤ 1000 := by omega
        have hge : 1 ≤ (s.asks 0).count := by omega
        have t1 := htok.z0
        have t2 : (s.asks 0).size ≤ 9000 := by have := htok.a2; have : (s.asks 0).asked = (s.asks 0).size := rfl; omega
        have hnc := hid (fun (W : World) (hw : RB W w.heap.size s) => rnext_ask w.heap.size s 0 W HAT.out.ok (by simp [St.bad, HAT.out.now]) HAT.out.size HO.out hw)
        have hstep : s.step bound ch = (s.asks 0).told 0 (s.asks 0).count 0 (if lossAt bound ch (s.asks 0).size (s.asks 0).count then 1 else 0) := rfl
        have HK := hid htok
        obtain ⟨t, ht⟩ : ∃ t, s.asks 0 = t := ⟨_, rfl⟩
        rw [ht] at hstep HK t1 t2 hle hge hnc
        have HS := hid hstep
        clear ht hstep htok hcs ha1 ha2 hrun' hlim
        have hch := HC.out.new HN.out
        by_cases hD : t.count ≤ ch.length
        · have hi : (t.count - 1).toNat < ch.length := by omega
          rcases hch with ⟨⟨_, _, hv⟩, hnil⟩ | ⟨cb, coff, cap, hv, hcb, hcl, hcc⟩
          · rw [hnil] at hi; simp at hi
          · have hcell := hcc _ hi
            have hcn : cn = ch.length := by injection hv
            have hca : ca = some ⟨cb, coff, none⟩ := by injection hv
            subst hcn; subst hca
            have hcl' : (ch.length : Int) ≤ 9223372036854775807 := by unfold maxLen at hcl; omega
            rw [show coff + (t.count - 1).toNat = coff + (t.count.toNat - 1) from by omega] at hcell
            have hcbn : cb < w.heap.size := by
              rcases HC.out with ⟨_, hnil⟩ | ⟨cb2, coff2, cap2, hv2, hcb2, _⟩
              · rw [hnil] at hi; simp at hi
              · injection hv2 with h1 h2 h3; injection h1 with h1; injection h1 with h1; omega
            have hcell2 := hid (fun (W : World) (hm : Mod (· = w.heap.size) wr W) => (World.cell?_of_block (w := wr) (w' := W) (a := ⟨cb, coff + (t.count.toNat - 1), none⟩) (hm.block cb hcb (by omega))).trans hcell)
            clear hcc hv hcl hcell
            cases hE : ch.getD (t.count - 1).toNat false with
            | true =>
              have hloss : lossAt bound ch t.size t.count = true := by simp only [lossAt, hE, decide_eq_true hD]; simp
              have HLS := hid hloss
              rw [hE] at hcell2
              clear hloss hE
              go_wp2_with (first | (go_at_call 32; refine (rState_any _ s _ HAT.out.ok HB.out).mono ?_; rw [HST.out]; rintro e w3 ⟨rfl, sn⟩; have SN := hid sn; clear sn; have d7 : w3.cell? ⟨w.heap.size, 7, none⟩ = some (.int .i64 s.count) := Blk.cellv (SN.out.blk HB.out) 7 rfl) | (go_at_call 29; refine (hnc.out _ (SN.out.blk HB.out)).mono ?_; rintro e w4 ⟨rfl, b4, m4⟩; have zz := hcell2.out _ (Mod.trans (New.mod SN.out) m4); have B4 := hid b4; have M4 := hid m4; clear b4 m4) | (go_at_call 24; refine (rLost_no _ t 0 t.count _ HK.out B4.out).mono ?_; rintro e w5 ⟨rfl, b5, m5⟩; have B5 := hid b5; have M5 := hid m5; clear b5 m5))
              obtain ⟨ha1, ha2, hr⟩ := HI.out
              have hst : s.step bound ch = t.told 0 t.count 0 1 := by rw [HS.out, HLS.out]; rfl
              have hB5 := B5.out
              rw [← hst] at hB5
              have c7' : w5.cell? ⟨w.heap.size, 7, none⟩ = some (.int .i64 (s.step bound ch).count) := Blk.cellv hB5 7 rfl
              refine ⟨⟨s.step bound ch, hB5, ha1, by omega, hr.symm, Mod.trans' (Mod.trans HN.out SN.out) (Mod.trans M4.out M5.out) (fun i hi x => by have x' : i = w.heap.size := x; omega)⟩, ?_⟩
              rw [c7', c7]
              simp only [intOf]
              omega
            | false =>
              rw [hE] at hcell2
              by_cases hA : bound < t.size
              · have hloss : lossAt bound ch t.size t.count = true := by simp [lossAt, hA]
                have HLS := hid hloss
                clear hloss hE
                go_wp2_with (first | (go_at_call 32; refine (rState_any _ s _ HAT.out.ok HB.out).mono ?_; rw [HST.out]; rintro e w3 ⟨rfl, sn⟩; have SN := hid sn; clear sn; have d7 : w3.cell? ⟨w.heap.size, 7, none⟩ = some (.int .i64 s.count) := Blk.cellv (SN.out.blk HB.out) 7 rfl) | (go_at_call 29; refine (hnc.out _ (SN.out.blk HB.out)).mono ?_; rintro e w4 ⟨rfl, b4, m4⟩; have zz := hcell2.out _ (Mod.trans (New.mod SN.out) m4); have B4 := hid b4; have M4 := hid m4; clear b4 m4) | (go_at_call 24; refine (rLost_no _ t 0 t.count _ HK.out B4.out).mono ?_; rintro e w5 ⟨rfl, b5, m5⟩; have B5 := hid b5; have M5 := hid m5; clear b5 m5))
                obtain ⟨ha1, ha2, hr⟩ := HI.out
                have hst : s.step bound ch = t.told 0 t.count 0 1 := by rw [HS.out, HLS.out]; rfl
                have hB5 := B5.out
                rw [← hst] at hB5
                have c7' : w5.cell? ⟨w.heap.size, 7, none⟩ = some (.int .i64 (s.step bound ch).count) := Blk.cellv hB5 7 rfl
                refine ⟨⟨s.step bound ch, hB5, ha1, by omega, hr.symm, Mod.trans' (Mod.trans HN.out SN.out) (Mod.trans M4.out M5.out) (fun i hi x => by have x' : i = w.heap.size := x; omega)⟩, ?_⟩
                rw [c7', c7]
                simp only [intOf]
                omega
              · have hloss : lossAt bound ch t.size t.count = false := by simp only [lossAt, hE]; simp; omega
                have HLS := hid hloss
                clear hloss hE
                go_wp2_with (first | (go_at_call 32; refine (rState_any _ s _ HAT.out.ok HB.out).mono ?_; rw [HST.out]; rintro e w3 ⟨rfl, sn⟩; have SN := hid sn; clear sn; have d7 : w3.cell? ⟨w.heap.size, 7, none⟩ = some (.int .i64 s.count) := Blk.cellv (SN.out.blk HB.out) 7 rfl) | (go_at_call 29; refine (hnc.out _ (SN.out.blk HB.out)).mono ?_; rintro e w4 ⟨rfl, b4, m4⟩; have zz := hcell2.out _ (Mod.trans (New.mod SN.out) m4); have B4 := hid b4; have M4 := hid m4; clear b4 m4) | (go_at_call 22; refine (rAcked_any _ t 0 t.count _ HK.out B4.out).mono ?_; rintro e w5 ⟨rfl, b5, m5⟩; have B5 := hid b5; have M5 := hid m5; clear b5 m5))
                obtain ⟨ha1, ha2, hr⟩ := HI.out
                have hst : s.step bound ch = t.told 0 t.count 0 0 := by rw [HS.out, HLS.out]; rfl
                have hB5 := B5.out
                rw [← hst] at hB5
                have c7' : w5.cell? ⟨w.heap.size, 7, none⟩ = some (.int .i64 (s.step bound ch).count) := Blk.cellv hB5 7 rfl
                refine ⟨⟨s.step bound ch, hB5, ha1, by omega, hr.symm, Mod.trans' (Mod.trans HN.out SN.out) (Mod.trans M4.out M5.out) (fun i hi x => by have x' : i = w.heap.size := x; omega)⟩, ?_⟩
                rw [c7', c7]
                simp only [intOf]
                omega
        · have hcn : cn = ch.length := by
            rcases hch with ⟨⟨_, _, hv⟩, hnil⟩ | ⟨cb, coff, cap, hv, hcb, hcl, hcc⟩
            · rw [hnil]; injection hv
            · injection hv
          subst hcn
          clear hch
          by_cases hA : bound < t.size
          · have hloss : lossAt bound ch t.size t.count = true := by simp [lossAt, hA]
            have HLS := hid hloss
            clear hloss
            go_wp2_with (first | (go_at_call 32; refine (rState_any _ s _ HAT.out.ok HB.out).mono ?_; rw [HST.out]; rintro e w3 ⟨rfl, sn⟩; have SN := hid sn; clear sn; have d7 : w3.cell? ⟨w.heap.size, 7, none⟩ = some (.int .i64 s.count) := Blk.cellv (SN.out.blk HB.out) 7 rfl) | (go_at_call 29; refine (hnc.out _ (SN.out.blk HB.out)).mono ?_; rintro e w4 ⟨rfl, b4, m4⟩; skip; have B4 := hid b4; have M4 := hid m4; clear b4 m4) | (go_at_call 24; refine (rLost_no _ t 0 t.count _ HK.out B4.out).mono ?_; rintro e w5 ⟨rfl, b5, m5⟩; have B5 := hid b5; have M5 := hid m5; clear b5 m5))
            obtain ⟨ha1, ha2, hr⟩ := HI.out
            have hst : s.step bound ch = t.told 0 t.count 0 1 := by rw [HS.out, HLS.out]; rfl
            have hB5 := B5.out
            rw [← hst] at hB5
            have c7' : w5.cell? ⟨w.heap.size, 7, none⟩ = some (.int .i64 (s.step bound ch).count) := Blk.cellv hB5 7 rfl
            refine ⟨⟨s.step bound ch, hB5, ha1, by omega, hr.symm, Mod.trans' (Mod.trans HN.out SN.out) (Mod.trans M4.out M5.out) (fun i hi x => by have x' : i = w.heap.size := x; omega)⟩, ?_⟩
            rw [c7', c7]
            simp only [intOf]
            omega
          · have hloss : lossAt bound ch t.size t.count = false := by simp [lossAt]; omega
            have HLS := hid hloss
            clear hloss
            go_wp2_with (first | (go_at_call 32; refine (rState_any _ s _ HAT.out.ok HB.out).mono ?_; rw [HST.out]; rintro e w3 ⟨rfl, sn⟩; have SN := hid sn; clear sn; have d7 : w3.cell? ⟨w.heap.size, 7, none⟩ = some (.int .i64 s.count) := Blk.cellv (SN.out.blk HB.out) 7 rfl) | (go_at_call 29; refine (hnc.out _ (SN.out.blk HB.out)).mono ?_; rintro e w4 ⟨rfl, b4, m4⟩; skip; have B4 := hid b4; have M4 := hid m4; clear b4 m4) | (go_at_call 22; refine (rAcked_any _ t 0 t.count _ HK.out B4.out).mono ?_; rintro e w5 ⟨rfl, b5, m5⟩; have B5 := hid b5; have M5 := hid m5; clear b5 m5))
            obtain ⟨ha1, ha2, hr⟩ := HI.out
            have hst : s.step bound ch = t.told 0 t.count 0 0 := by rw [HS.out, HLS.out]; rfl
            have hB5 := B5.out
            rw [← hst] at hB5
            have c7' : w5.cell? ⟨w.heap.size, 7, none⟩ = some (.int .i64 (s.step bound ch).count) := Blk.cellv hB5 7 rfl
            refine ⟨⟨s.step bound ch, hB5, ha1, by omega, hr.symm, Mod.trans' (Mod.trans HN.out SN.out) (Mod.trans M4.out M5.out) (fun i hi x => by have x' : i = w.heap.size := x; omega)⟩, ?_⟩
            rw [c7', c7]
            simp only [intOf]
            omega
end Go.Proofs.Ytakglmdpaaiclaa
