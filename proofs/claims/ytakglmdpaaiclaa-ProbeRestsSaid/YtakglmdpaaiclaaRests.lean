/-
  ProbeRests returns true, for every input.
-/
import Derived.Test.YtakglmdpaaiclaaLc
import Derived.Test.YtakglmdpaaiclaaOpen
namespace Go.Proofs.Ytakglmdpaaiclaa.probeRests
set_option linter.unusedSimpArgs false
set_option linter.unusedVariables false
open Go.ChangeShapes Go.WideShapes Go.ChangeAt Go.RowKit Go.Deep

theorem own : ownKnob Try.prog.godebug = none := by kernel_rfl
theorem laidOut : laidOutB Try.prog = true := by kernel_rfl


theorem state_two (r : St) (h1 : r.over = true) (h2 : r.since = r.now) : r.state = 2 := by
  unfold St.state
  rw [if_pos h1, if_neg (by omega)]

/-- What the law asks of the search in the end. -/
theorem rests_end (low high bound later : Int) (hr : right low high = true) (hb : low ≤ bound) (h1 : 600000 ≤ later) (h2 : later ≤ 1000000) :
    (runM bound 0 200 (newSt low high)).low ≤ (runM bound later 200 (runM bound 0 200 (newSt low high))).low ∧ (runM bound later 200 (runM bound 0 200 (newSt low high))).low ≤ bound ∧
    (bound - 16 < (runM bound later 200 (runM bound 0 200 (newSt low high))).low ∨ high - 16 < (runM bound later 200 (runM bound 0 200 (newSt low high))).low) ∧
    (runM bound later 200 (runM bound 0 200 (newSt low high))).high - (runM bound later 200 (runM bound 0 200 (newSt low high))).low < 16 ∧
    (runM bound later 200 (runM bound 0 200 (newSt low high))).state = 2 ∧ 576 ≤ (runM bound later 200 (runM bound 0 200 (newSt low high))).low ∧ (runM bound later 200 (runM bound 0 200 (newSt low high))).low ≤ (runM bound later 200 (runM bound 0 200 (newSt low high))).high ∧ (runM bound later 200 (runM bound 0 200 (newSt low high))).high ≤ 9000 := by
  have hf := run_first low high bound hr hb
  have hc := count_runM bound 0 200 (newSt low high)
  have hcount : (newSt low high).count = 0 := by unfold newSt St.settle; split <;> rfl
  have htop : (newSt low high).top = high := by unfold newSt St.settle; split <;> rfl
  have ht := hf.top
  generalize runM bound 0 200 (newSt low high) = r at *
  rcases run_second r bound later _ hf (by omega) h1 h2 with h | ⟨t, e1, e2, hg⟩
  · rw [h]
    have hov := hf.ok.ov
    rw [hf.over] at hov
    simp at hov
    have := hf.hi
    have := hf.lo2
    exact ⟨by omega, by omega, by omega, by omega, state_two r hf.over (by rw [hf.since, hf.now]), hf.ok.l1, hf.ok.l2, by have := hf.ok.l3; have := hf.ok.l4; omega⟩
  · have hov := hg.ok.ov
    rw [hg.over] at hov
    simp at hov
    have := hg.hi
    have := hg.lo2
    have := hg.lo1
    have := hg.top
    exact ⟨by omega, by omega, by omega, by omega, state_two _ hg.over (by rw [hg.since, hg.now]), hg.ok.l1, hg.ok.l2, by have := hg.ok.l3; have := hg.ok.l4; omega⟩

theorem rests_mid (low high bound later : Int) (hr : right low high = true) (hb : low ≤ bound) (h1 : 0 ≤ later) (h2 : later < 600000) :
    (runM bound 0 200 (newSt low high)).nextErr later = 8 ∧ (runM bound 0 200 (newSt low high)).state = 2 := by
  have hf := run_first low high bound hr hb
  generalize runM bound 0 200 (newSt low high) = r at *
  refine ⟨?_, state_two r hf.over (by rw [hf.since, hf.now])⟩
  have hbad : r.bad later = false := by have := hf.now; simp [St.bad]; omega
  have := hf.since
  simp [St.nextErr, hbad, hf.size, hf.over]
  omega


set_option maxRecDepth 100000 in
set_option maxHeartbeats 2000000 in
theorem rests_any (low high bound later : Int) (w : World) :
    Calls Try.prog 4 #[.int .i64 low, .int .i64 high, .int .i64 bound, .int .i64 later] w fun e w' => e = .returned (.bool true) ∧ New w w' := by
  have hrt := right_any low high w
  cases hr : right low high with
  | false =>
    rw [hr] at hrt
    have HRT := hid hrt
    clear hrt hr
    go_enter Try.func4, Try.ntmps4
    go_wp2_with (first | (go_at_call 11; refine HRT.out.mono ?_; rintro e w' ⟨rfl, rfl⟩) | (go_at_call 6; refine (awake_any _).mono ?_; rintro e w' ⟨rfl, hn⟩; have HA := hid hn; clear hn))
    go_ret
    exact ⟨rfl, HA.out⟩
  | true =>
    rw [hr] at hrt
    have HRT := hid hrt
    have HR := hid hr
    clear hrt hr
    by_cases g1 : bound < low
    · as_aux_lemma =>
      go_enter Try.func4, Try.ntmps4
      go_wp2_with (first | (go_at_call 11; refine HRT.out.mono ?_; rintro e w' ⟨rfl, rfl⟩) | (go_at_call 6; refine (awake_any _).mono ?_; rintro e w' ⟨rfl, hn⟩; have HA := hid hn; clear hn))
      go_ret
      exact ⟨rfl, HA.out⟩
    by_cases g2 : 10000 < bound
    · as_aux_lemma =>
      go_enter Try.func4, Try.ntmps4
      go_wp2_with (first | (go_at_call 11; refine HRT.out.mono ?_; rintro e w' ⟨rfl, rfl⟩) | (go_at_call 6; refine (awake_any _).mono ?_; rintro e w' ⟨rfl, hn⟩; have HA := hid hn; clear hn))
      go_ret
      exact ⟨rfl, HA.out⟩
    by_cases g3 : later < 0
    · as_aux_lemma =>
      go_enter Try.func4, Try.ntmps4
      go_wp2_with (first | (go_at_call 11; refine HRT.out.mono ?_; rintro e w' ⟨rfl, rfl⟩) | (go_at_call 6; refine (awake_any _).mono ?_; rintro e w' ⟨rfl, hn⟩; have HA := hid hn; clear hn))
      go_ret
      exact ⟨rfl, HA.out⟩
    by_cases g4 : 1000000 < later
    · as_aux_lemma =>
      go_enter Try.func4, Try.ntmps4
      go_wp2_with (first | (go_at_call 11; refine HRT.out.mono ?_; rintro e w' ⟨rfl, rfl⟩) | (go_at_call 6; refine (awake_any _).mono ?_; rintro e w' ⟨rfl, hn⟩; have HA := hid hn; clear hn))
      go_ret
      exact ⟨rfl, HA.out⟩
    have hat := hid (at_new low high HR.out)
    have hcount := hid (show (newSt low high).count = 0 by unfold newSt St.settle; split <;> rfl)
    have hrok := hid ((run_first low high bound HR.out (by omega)).ok)
    have hsz := hid ((run_first low high bound HR.out (by omega)).size)
    have hcnt := hid (count_runM bound 0 200 (newSt low high))
    by_cases g5 : later < 600000
    · as_aux_lemma =>
      obtain ⟨m1, m2⟩ := rests_mid low high bound later HR.out (by omega) (by omega) g5
      have M1 := hid m1; have M2 := hid m2
      clear m1 m2
      obtain ⟨r, hre⟩ : ∃ r, runM bound 0 200 (newSt low high) = r := ⟨_, rfl⟩
      rw [hre] at M1 M2 hrok hsz hcnt
      have HRE := hid hre
      have HNX := hid (next_size_zero r later (by rw [M1.out]; decide))
      clear hre
      go_enter Try.func4, Try.ntmps4
      go_wp2_with (first | (go_at_call 11; refine HRT.out.mono ?_; rintro e w' ⟨rfl, rfl⟩) | (go_at_call 12; refine (new_ok _ _ _ HR.out).mono ?_; rintro e w1 ⟨rfl, b1, n1⟩; have B1 := hid b1; have N1 := hid n1; clear b1 n1) | (go_at_call 13; refine (run_any w.heap.size (newSt low high) bound 0 _ hat.out.ok hat.out.size (by have := hcount.out; omega) B1.out).mono ?_; rw [HRE.out]; rintro e w2 ⟨rfl, b2, -, k1⟩; have B2 := hid b2; have K1 := hid k1; clear b2 k1) | (go_at_call 14; refine (Size_any _ r none _ B2.out).mono ?_; rintro e w3 ⟨rfl, rfl⟩) | (go_at_call 16; refine (Next_any _ r none later _ hrok.out B2.out (.inl ⟨hsz.out, rfl⟩)).mono ?_; rintro e w3 ⟨he3, p', b3, q3, -, k2⟩; rw [M1.out] at he3; rw [HNX.out] at b3; subst he3; have B3 := hid b3; have K2 := hid k2; clear b3 q3 k2) | (go_at_call 17; refine (State_any _ r _ _ hrok.out B3.out).mono ?_; rw [M2.out]; rintro e w4 ⟨rfl, sn⟩; have SN := hid sn; clear sn) | (go_at_call 15; first | (refine (Sent_any _ r none _ B2.out).mono ?_; rintro e w5 ⟨rfl, rfl⟩) | (refine (Sent_any _ r _ _ (SN.out.blk B3.out)).mono ?_; rintro e w5 ⟨rfl, rfl⟩)) | (go_at_call 6; refine (awake_any _).mono ?_; rintro e w' ⟨rfl, hn⟩; have HA := hid hn; clear hn))
      go_ret
      exact ⟨rfl, Mod.trans' (Mod.trans' N1.out (K1.out) (fun i hi x => by have x' : i = w.heap.size := x; omega)) (Mod.trans (K2.out) (New.mod (Mod.trans SN.out HA.out))) (fun i hi x => by have x' : i = w.heap.size := x; omega)⟩
    · as_aux_lemma =>
      obtain ⟨m1, m2, m3, m4, m5, m6, m7, m8⟩ := rests_end low high bound later HR.out (by omega) (by omega) (by omega)
      obtain ⟨r, hre⟩ : ∃ r, runM bound 0 200 (newSt low high) = r := ⟨_, rfl⟩
      rw [hre] at m1 m2 m3 m4 m5 m6 m7 m8 hrok hsz hcnt
      have HRE := hid hre
      clear hre
      obtain ⟨r2, hre2⟩ : ∃ r2, runM bound later 200 r = r2 := ⟨_, rfl⟩
      rw [hre2] at m1 m2 m3 m4 m5 m6 m7 m8
      have hrr := HR.out
      simp only [right, decide_eq_true_eq] at hrr
      obtain ⟨hr1, hr2, hr3⟩ := hrr
      have HRE2 := hid hre2
      have M5 := hid m5
      clear hre2 m5
      rcases m3 with m3 | m3
      · by_cases hmin : bound ≤ high
        · go_enter Try.func4, Try.ntmps4
          go_wp2_with (first | (go_at_call 11; refine HRT.out.mono ?_; rintro e w' ⟨rfl, rfl⟩) | (go_at_call 12; refine (new_ok _ _ _ HR.out).mono ?_; rintro e w1 ⟨rfl, b1, n1⟩; have B1 := hid b1; have N1 := hid n1; clear b1 n1) | (go_at_call 13; have B1' := B1; clear B1; refine (run_any w.heap.size (newSt low high) bound 0 _ hat.out.ok hat.out.size (by have := hcount.out; omega) B1'.out).mono ?_; rw [HRE.out]; rintro e w2 ⟨rfl, b2, -, k1⟩; have B2 := hid b2; have K1 := hid k1; clear b2 k1) | (go_at_call 13; refine (run_any w.heap.size r bound later _ hrok.out hsz.out (by have := hcount.out; have := hcnt.out; omega) B2.out).mono ?_; rw [HRE2.out]; rintro e w3 ⟨rfl, b3, ok3, k2⟩; have B3 := hid b3; have K2 := hid k2; have OK3 := hid ok3; clear b3 ok3 k2) | (go_at_call 18; refine (Range_any _ r2 none _ B3.out).mono ?_; rintro e w4 ⟨rfl, rn⟩; have RN := hid rn; clear rn) | (go_at_call 14; first | (refine (Size_any _ r2 none _ (RN.out.blk B3.out)).mono ?_; rintro e w5 ⟨rfl, rfl⟩) | (refine (Size_any _ r none _ B2.out).mono ?_; rintro e w5 ⟨rfl, rfl⟩)) | (go_at_call 15; refine (Sent_any _ r none _ B2.out).mono ?_; rintro e w5 ⟨rfl, rfl⟩) | (go_at_call 17; refine (State_any _ r2 none _ OK3.out (RN.out.blk B3.out)).mono ?_; rw [M5.out]; rintro e w6 ⟨rfl, sn⟩; have SN := hid sn; clear sn) | (go_at_call 6; refine (awake_any _).mono ?_; rintro e w' ⟨rfl, hn⟩; have HA := hid hn; clear hn))
          go_ret
          exact ⟨rfl, Mod.trans' (Mod.trans' N1.out (K1.out) (fun i hi x => by have x' : i = w.heap.size := x; omega)) (Mod.trans (K2.out) (New.mod (Mod.trans RN.out (Mod.trans SN.out HA.out)))) (fun i hi x => by have x' : i = w.heap.size := x; omega)⟩
        · go_enter Try.func4, Try.ntmps4
          go_wp2_with (first | (go_at_call 11; refine HRT.out.mono ?_; rintro e w' ⟨rfl, rfl⟩) | (go_at_call 12; refine (new_ok _ _ _ HR.out).mono ?_; rintro e w1 ⟨rfl, b1, n1⟩; have B1 := hid b1; have N1 := hid n1; clear b1 n1) | (go_at_call 13; have B1' := B1; clear B1; refine (run_any w.heap.size (newSt low high) bound 0 _ hat.out.ok hat.out.size (by have := hcount.out; omega) B1'.out).mono ?_; rw [HRE.out]; rintro e w2 ⟨rfl, b2, -, k1⟩; have B2 := hid b2; have K1 := hid k1; clear b2 k1) | (go_at_call 13; refine (run_any w.heap.size r bound later _ hrok.out hsz.out (by have := hcount.out; have := hcnt.out; omega) B2.out).mono ?_; rw [HRE2.out]; rintro e w3 ⟨rfl, b3, ok3, k2⟩; have B3 := hid b3; have K2 := hid k2; have OK3 := hid ok3; clear b3 ok3 k2) | (go_at_call 18; refine (Range_any _ r2 none _ B3.out).mono ?_; rintro e w4 ⟨rfl, rn⟩; have RN := hid rn; clear rn) | (go_at_call 14; first | (refine (Size_any _ r2 none _ (RN.out.blk B3.out)).mono ?_; rintro e w5 ⟨rfl, rfl⟩) | (refine (Size_any _ r none _ B2.out).mono ?_; rintro e w5 ⟨rfl, rfl⟩)) | (go_at_call 15; refine (Sent_any _ r none _ B2.out).mono ?_; rintro e w5 ⟨rfl, rfl⟩) | (go_at_call 17; refine (State_any _ r2 none _ OK3.out (RN.out.blk B3.out)).mono ?_; rw [M5.out]; rintro e w6 ⟨rfl, sn⟩; have SN := hid sn; clear sn) | (go_at_call 6; refine (awake_any _).mono ?_; rintro e w' ⟨rfl, hn⟩; have HA := hid hn; clear hn))
          go_ret
          exact ⟨rfl, Mod.trans' (Mod.trans' N1.out (K1.out) (fun i hi x => by have x' : i = w.heap.size := x; omega)) (Mod.trans (K2.out) (New.mod (Mod.trans RN.out (Mod.trans SN.out HA.out)))) (fun i hi x => by have x' : i = w.heap.size := x; omega)⟩
      · by_cases hmin : bound ≤ high
        · go_enter Try.func4, Try.ntmps4
          go_wp2_with (first | (go_at_call 11; refine HRT.out.mono ?_; rintro e w' ⟨rfl, rfl⟩) | (go_at_call 12; refine (new_ok _ _ _ HR.out).mono ?_; rintro e w1 ⟨rfl, b1, n1⟩; have B1 := hid b1; have N1 := hid n1; clear b1 n1) | (go_at_call 13; have B1' := B1; clear B1; refine (run_any w.heap.size (newSt low high) bound 0 _ hat.out.ok hat.out.size (by have := hcount.out; omega) B1'.out).mono ?_; rw [HRE.out]; rintro e w2 ⟨rfl, b2, -, k1⟩; have B2 := hid b2; have K1 := hid k1; clear b2 k1) | (go_at_call 13; refine (run_any w.heap.size r bound later _ hrok.out hsz.out (by have := hcount.out; have := hcnt.out; omega) B2.out).mono ?_; rw [HRE2.out]; rintro e w3 ⟨rfl, b3, ok3, k2⟩; have B3 := hid b3; have K2 := hid k2; have OK3 := hid ok3; clear b3 ok3 k2) | (go_at_call 18; refine (Range_any _ r2 none _ B3.out).mono ?_; rintro e w4 ⟨rfl, rn⟩; have RN := hid rn; clear rn) | (go_at_call 14; first | (refine (Size_any _ r2 none _ (RN.out.blk B3.out)).mono ?_; rintro e w5 ⟨rfl, rfl⟩) | (refine (Size_any _ r none _ B2.out).mono ?_; rintro e w5 ⟨rfl, rfl⟩)) | (go_at_call 15; refine (Sent_any _ r none _ B2.out).mono ?_; rintro e w5 ⟨rfl, rfl⟩) | (go_at_call 17; refine (State_any _ r2 none _ OK3.out (RN.out.blk B3.out)).mono ?_; rw [M5.out]; rintro e w6 ⟨rfl, sn⟩; have SN := hid sn; clear sn) | (go_at_call 6; refine (awake_any _).mono ?_; rintro e w' ⟨rfl, hn⟩; have HA := hid hn; clear hn))
          go_ret
          exact ⟨rfl, Mod.trans' (Mod.trans' N1.out (K1.out) (fun i hi x => by have x' : i = w.heap.size := x; omega)) (Mod.trans (K2.out) (New.mod (Mod.trans RN.out (Mod.trans SN.out HA.out)))) (fun i hi x => by have x' : i = w.heap.size := x; omega)⟩
        · go_enter Try.func4, Try.ntmps4
          go_wp2_with (first | (go_at_call 11; refine HRT.out.mono ?_; rintro e w' ⟨rfl, rfl⟩) | (go_at_call 12; refine (new_ok _ _ _ HR.out).mono ?_; rintro e w1 ⟨rfl, b1, n1⟩; have B1 := hid b1; have N1 := hid n1; clear b1 n1) | (go_at_call 13; have B1' := B1; clear B1; refine (run_any w.heap.size (newSt low high) bound 0 _ hat.out.ok hat.out.size (by have := hcount.out; omega) B1'.out).mono ?_; rw [HRE.out]; rintro e w2 ⟨rfl, b2, -, k1⟩; have B2 := hid b2; have K1 := hid k1; clear b2 k1) | (go_at_call 13; refine (run_any w.heap.size r bound later _ hrok.out hsz.out (by have := hcount.out; have := hcnt.out; omega) B2.out).mono ?_; rw [HRE2.out]; rintro e w3 ⟨rfl, b3, ok3, k2⟩; have B3 := hid b3; have K2 := hid k2; have OK3 := hid ok3; clear b3 ok3 k2) | (go_at_call 18; refine (Range_any _ r2 none _ B3.out).mono ?_; rintro e w4 ⟨rfl, rn⟩; have RN := hid rn; clear rn) | (go_at_call 14; first | (refine (Size_any _ r2 none _ (RN.out.blk B3.out)).mono ?_; rintro e w5 ⟨rfl, rfl⟩) | (refine (Size_any _ r none _ B2.out).mono ?_; rintro e w5 ⟨rfl, rfl⟩)) | (go_at_call 15; refine (Sent_any _ r none _ B2.out).mono ?_; rintro e w5 ⟨rfl, rfl⟩) | (go_at_call 17; refine (State_any _ r2 none _ OK3.out (RN.out.blk B3.out)).mono ?_; rw [M5.out]; rintro e w6 ⟨rfl, sn⟩; have SN := hid sn; clear sn) | (go_at_call 6; refine (awake_any _).mono ?_; rintro e w' ⟨rfl, hn⟩; have HA := hid hn; clear hn))
          go_ret
          exact ⟨rfl, Mod.trans' (Mod.trans' N1.out (K1.out) (fun i hi x => by have x' : i = w.heap.size := x; omega)) (Mod.trans (K2.out) (New.mod (Mod.trans RN.out (Mod.trans SN.out HA.out)))) (fun i hi x => by have x' : i = w.heap.size := x; omega)⟩

set_option maxRecDepth 100000 in
theorem lifted (os : Os) (started : os.Started) (H : Type) (enc : TypeId × Value → H) :
    ReturnsInHanded {} Try.checked os 4 .any (Rows.probeRestsSpec.pre6 enc Try.prog Try.f4 Rows.probeRestsRow.domain false) (Rows.probeRestsSpec.post enc Try.prog Try.f4 false true false false) := by
  refine returnsInHanded_of_change (C := Try.checked) own started (by kernel_rfl) Try.func4
    (ChangeSpec.witness6 (enc := enc) (C := Try.checked) false ⟨#[], #[.int .i64 0, .int .i64 0, .int .i64 0, .int .i64 0], []⟩ 8 (by kernel_rfl) (by kernel_rfl) (by kernel_rfl) (by kernel_rfl)) ?_
  intro W base args ds gs before hval0 hW hcnd _
  have hval : ∀ (j : Nat) t v, Try.f4.params[j]? = some t → args[j]? = some v → Value.okWide Try.prog W .any base t v := hval0
  have hW' := hW
  obtain ⟨p, q, hA0, hV, rfl, hfz, hnd⟩ := hW
  have hA : DataW.TrodAll enc Try.prog W 0 (fun _ => true) true Try.f4.params.toList args.toList ds p := hA0
  rw [Try.params4] at hA hval
  obtain ⟨v0, vs0, d0, ds0, p0, q0, hargs, rfl, rfl, h0, r0⟩ := trodAll_cons hA
  obtain ⟨v1, vs1, d1, ds1, p1, q1, rfl, rfl, rfl, h1, r1⟩ := trodAll_cons r0
  obtain ⟨v2, vs2, d2, ds2, p2, q2, rfl, rfl, rfl, h2, r2⟩ := trodAll_cons r1
  obtain ⟨v3, vs3, d3, ds3, p3, q3, rfl, rfl, rfl, h3, r3⟩ := trodAll_cons r2
  obtain ⟨rfl, rfl, rfl⟩ := trodAll_nil r3
  obtain rfl : args = #[v0, v1, v2, v3] := by cases args; simp_all
  obtain ⟨rfl, rfl⟩ := trodVars_none hV
  have k0 := h0; have k1 := h1; have k2 := h2; have k3 := h3
  have lt0 : ∀ x ∈ p0, x.block < W.heap.size := by obtain ⟨m, hm⟩ := k0; exact DataW.trod_lt m _ _ _ hm
  have lt1 : ∀ x ∈ p1, x.block < W.heap.size := by obtain ⟨m, hm⟩ := k1; exact DataW.trod_lt m _ _ _ hm
  have lt2 : ∀ x ∈ p2, x.block < W.heap.size := by obtain ⟨m, hm⟩ := k2; exact DataW.trod_lt m _ _ _ hm
  have lt3 : ∀ x ∈ p3, x.block < W.heap.size := by obtain ⟨m, hm⟩ := k3; exact DataW.trod_lt m _ _ _ hm
  obtain ⟨a0, rfl, -, -, w0⟩ := open_int Try.underlying3 (hval 0 3 v0 rfl rfl) h0
  obtain ⟨a1, rfl, -, -, w1⟩ := open_int Try.underlying3 (hval 1 3 v1 rfl rfl) h1
  obtain ⟨a2, rfl, -, -, w2⟩ := open_int Try.underlying3 (hval 2 3 v2 rfl rfl) h2
  obtain ⟨a3, rfl, -, -, w3⟩ := open_int Try.underlying3 (hval 3 3 v3 rfl rfl) h3
  clear hA0 hval0
  refine (rests_any a0 a1 a2 a3 W).mono fun e W' ⟨he, hn⟩ => ?_
  subst he
  have bel : Below W.heap.size W W' := hn.below _ (Nat.le_refl _) (fun _ _ x => x)
  exact ⟨_, rfl, _, _, _, [], _, [], hW', trodAll_mk1 (shut_bool Try.underlying4 _), (trodAll_cons_mk (Below.trod laidOut (by kernel_rfl) (of_decide_eq_true (by kernel_rfl)) k0 bel lt0) (trodAll_cons_mk (Below.trod laidOut (by kernel_rfl) (of_decide_eq_true (by kernel_rfl)) k1 bel lt1) (trodAll_cons_mk (Below.trod laidOut (by kernel_rfl) (of_decide_eq_true (by kernel_rfl)) k2 bel lt2) (trodAll_cons_mk (Below.trod laidOut (by kernel_rfl) (of_decide_eq_true (by kernel_rfl)) k3 bel lt3) trodAll_mk0)))), rfl, bel.frame _, fun h => by cases h⟩

theorem over : Rows.probeRestsRow.holds Try.pinned (OpenSpec.ofChange Rows.probeRestsSpec) :=
  OpenClaim.holds_of_wide 4 Try.f4 rfl rfl rfl rfl rfl rfl rfl ⟨rfl, rfl, rfl, rfl, rfl⟩ rfl rfl rfl rfl rfl (by kernel_rfl) Try.func4 (by kernel_rfl)
    (of_decide_eq_true (by kernel_rfl)) (by unfold Func.isWrapper; first | (rw [if_pos (by decide +kernel)]; kernel_rfl) | (rw [if_neg (by decide +kernel)]; exact ⟨rfl, rfl⟩))
    (fun os started H enc _ => lifted os started H enc)

theorem proved : Rows.ProbeRestsSaid := over
#print axioms proved
end Go.Proofs.Ytakglmdpaaiclaa.probeRests
