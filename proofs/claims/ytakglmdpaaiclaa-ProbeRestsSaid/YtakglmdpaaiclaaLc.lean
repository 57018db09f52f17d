/-
  The walks of run and ProbeRests. Conditions: as they stand.
-/
import Derived.Test.YtakglmdpaaiclaaLa
import Derived.Test.YtakglmdpaaiclaaNx
import Derived.Test.YtakglmdpaaiclaaRunM
namespace Go.Proofs.Ytakglmdpaaiclaa
set_option linter.unusedSimpArgs false
set_option linter.unusedVariables false
open Go.RowKit


theorem next_size_zero (s : St) (now : Int) (h : s.nextErr now ≠ 0) : s.next now = s := by unfold St.next; rw [if_neg h]

theorem stepR_facts (s : St) (bound now : Int) (hk : s.Ok) (he : s.nextErr now = 0) (hc : s.count < 1000000000) :
    (s.stepR bound now).Ok ∧ (s.stepR bound now).size = 0 ∧ (s.stepR bound now).count ≤ s.count + 1 ∧ (s.next now).Ok ∧ 0 ≤ (s.next now).size ∧ (s.next now).size ≤ 9000 ∧ (s.next now).endErr now (s.next now).count 0 = 0 := by
  have hok := ok_next s now hk hc
  have hn : s.next now = s.anew.asks now := by unfold St.next; rw [if_pos he]
  have hz := size_ne' s now hk
  rw [← hn] at hz
  have hcnt : (s.next now).count = s.count + 1 := by rw [hn]; unfold St.anew; split <;> rfl
  have hnow : (s.next now).now = now := by rw [hn]; unfold St.anew; split <;> rfl
  have hb : s.bad now = false := by
    cases hb : s.bad now with
    | false => rfl
    | true => simp [St.nextErr, hb] at he
  have hb2 : (s.next now).bad now = false := by
    simp [St.bad] at hb ⊢
    rw [hnow]; omega
  have hc1 := hk.c1
  have hend : (s.next now).endErr now (s.next now).count 0 = 0 := by
    have hn1 : ¬ ((s.next now).count < 1) := by omega
    simp [St.endErr, hb2, hz, hn1]
  have ht := told_zero (s.next now) now (s.next now).count 0 (if bound < (s.next now).size then 1 else 0) hend
  have hs2 : (s.next now).asked = (s.next now).size := (hok.z1 hz).2.2
  exact ⟨ok_told _ _ _ _ _ hok, ht.1, by have := ht.2.2; unfold St.stepR; omega, hok, hok.z0, by have := hok.a2; omega, hend⟩

set_option maxRecDepth 100000 in
set_option maxHeartbeats 2000000 in
theorem run_any (b : Nat) (s : St) (bound now : Int) (w : World) (hk : s.Ok) (hz : s.size = 0) (hc : s.count ≤ 1000) (h : Blk w b (prow s none) 58) :
    Calls Try.prog 13 #[.pointer (some ⟨b, 0, none⟩), .int .i64 bound, .int .i64 now] w fun e w' => e = .returned (.tuple #[]) ∧ Blk w' b (prow (runM bound now 200 s) none) 58 ∧ (runM bound now 200 s).Ok ∧ Mod (· = b) w w' := by
  have H0 := hid h; have HK0 := hid hk; have HZ0 := hid hz
  clear h hk hz
  go_enter Try.func13, Try.ntmps13
  go_wp2
  go_loopw [9] (fun i wr => ∃ (k : Nat) (t : St), k ≤ 200 ∧ i = .int .i64 k ∧ t.Ok ∧ t.size = 0 ∧ t.count ≤ 1000 + k ∧ Blk wr b (prow t none) 58 ∧ runM bound now (200 - k) t = runM bound now 200 s ∧ Mod (· = b) w wr) (fun i _ => 200 - (intOf i).toNat)
  case atStart => exact ⟨0, s, by omega, rfl, HK0.out, HZ0.out, by omega, H0.out, rfl, Mod.refl _ _⟩
  case round =>
    obtain ⟨k, t, hk2, rfl, htk, htz, htc, hB, hrun, hM⟩ := hrel
    have HB := hid hB; have HRUN := hid hrun; have HM := hid hM; have HTK := hid htk; have HTZ := hid htz
    clear hB hrun hM htk htz
    by_cases hlt : k < 200
    · by_cases he : t.nextErr now = 0
      · obtain ⟨f1, f2, f3, f4, f5, f6, f7⟩ := stepR_facts t bound now HTK.out he (by omega)
        have HF := hid (And.intro f1 (And.intro f2 f3))
        have HN := hid f4
        have he' : (t.nextErr now != 0) = false := by simp [he]
        have hsz : t.nextSize now = (t.next now).size := by unfold St.nextSize; rw [if_pos he]
        have hnb : t.nextNumber now = (t.next now).count := by unfold St.nextNumber; rw [if_pos he]
        have hnc := hid (show Calls Try.prog 16 #[.pointer (some ⟨b, 0, none⟩), .int .i64 now] wr fun e w' => e = .returned (.tuple #[.int .i64 (t.next now).size, .int .i64 (t.next now).count, .int .i64 0]) ∧ ∃ p', Blk w' b (prow (t.next now) p') 58 ∧ Probe w' b (t.next now) p' ∧ Mod (· = b) wr w' from by
          refine (Next_any b t none now wr HTK.out HB.out (.inl ⟨HTZ.out, rfl⟩)).mono ?_
          rintro e w' ⟨rfl, p', g1, g2, -, g4⟩
          exact ⟨by rw [hsz, hnb, he], p', g1, g2, g4⟩)
        have hstep := hid (show runM bound now (200 - k) t = runM bound now (200 - (k + 1)) (t.stepR bound now) by
          rw [show 200 - k = (200 - (k + 1)) + 1 by omega]; exact runM_succ bound now _ t he)
        by_cases hbs : bound < (t.next now).size
        · have hst := hid (show t.stepR bound now = (t.next now).told now (t.next now).count 0 1 by unfold St.stepR; rw [if_pos hbs])
          clear f1 f2 f3 f4 f7 he he' hsz hnb
          generalize t.next now = u at *
          go_wp2_with (first | (go_at_call 16; refine hnc.out.mono ?_; rintro e W1 ⟨rfl, p', g1, g2, g4⟩; have G1 := hid g1; have G2 := hid g2; have G4 := hid g4; clear g1 g2 g4) | (go_at_call 23; refine (Lost_no b u p' now u.count W1 HN.out G1.out G2.out).mono ?_; rintro e W2 ⟨rfl, p2, k1, k2, k3, k4⟩; have K1 := hid k1; have K2 := hid k2; have K4 := hid k4; clear k1 k2 k3 k4))
          have hq : p2 = none := by
            obtain ⟨m1, m2, m3⟩ := HF.out
            rcases K2.out with ⟨_, h⟩ | ⟨h, _⟩
            · exact h
            · exact absurd (hst.out ▸ m2) h
          subst hq
          obtain ⟨m1, m2, m3⟩ := HF.out
          refine ⟨⟨k + 1, t.stepR bound now, by omega, by go_num, m1, m2, by omega, by rw [hst.out]; exact K1.out, hstep.out.symm.trans HRUN.out, (HM.out.trans G4.out).trans K4.out⟩, by simp [intOf]; omega⟩
        · have hst := hid (show t.stepR bound now = (t.next now).told now (t.next now).count 0 0 by unfold St.stepR; rw [if_neg hbs])
          clear f1 f2 f3 f4 f7 he he' hsz hnb
          generalize t.next now = u at *
          go_wp2_with (first | (go_at_call 16; refine hnc.out.mono ?_; rintro e W1 ⟨rfl, p', g1, g2, g4⟩; have G1 := hid g1; have G2 := hid g2; have G4 := hid g4; clear g1 g2 g4) | (go_at_call 21; refine (Acked_any b u p' now u.count W1 HN.out G1.out G2.out).mono ?_; rintro e W2 ⟨rfl, p2, k1, k2, k3, k4⟩; have K1 := hid k1; have K2 := hid k2; have K4 := hid k4; clear k1 k2 k3 k4))
          have hq : p2 = none := by
            obtain ⟨m1, m2, m3⟩ := HF.out
            rcases K2.out with ⟨_, h⟩ | ⟨h, _⟩
            · exact h
            · exact absurd (hst.out ▸ m2) h
          subst hq
          obtain ⟨m1, m2, m3⟩ := HF.out
          refine ⟨⟨k + 1, t.stepR bound now, by omega, by go_num, m1, m2, by omega, by rw [hst.out]; exact K1.out, hstep.out.symm.trans HRUN.out, (HM.out.trans G4.out).trans K4.out⟩, by simp [intOf]; omega⟩
      · have he' : (t.nextErr now != 0) = true := by simp [he]
        have hnx := hid (next_size_zero t now he)
        have hidle := hid (runM_idle bound now (200 - k) t he)
        have hnc := hid (show Calls Try.prog 16 #[.pointer (some ⟨b, 0, none⟩), .int .i64 now] wr fun e w' => ∃ x y : Int, e = .returned (.tuple #[.int .i64 x, .int .i64 y, .int .i64 (t.nextErr now)]) ∧ Blk w' b (prow t none) 58 ∧ Mod (· = b) wr w' from by
          refine (Next_any b t none now wr HTK.out HB.out (.inl ⟨HTZ.out, rfl⟩)).mono ?_
          rintro e w' ⟨rfl, p', g1, g2, -, g4⟩
          rw [hnx.out] at g1 g2
          rcases g2 with ⟨_, rfl⟩ | ⟨g, _⟩
          · exact ⟨_, _, rfl, g1, g4⟩
          · exact absurd HTZ.out g)
        clear he
        generalize t.nextErr now = er at *
        go_wp2_with (go_at_call 16; refine hnc.out.mono ?_; rintro e W1 ⟨x, y, rfl, g1, g4⟩; have G1 := hid g1; have G4 := hid g4; clear g1 g4)
        refine bodyPost_ret (results_none rfl _ _ _) rfl ?_
        have hfin := hidle.out.symm.trans HRUN.out
        exact ⟨rfl, hfin ▸ G1.out, hfin ▸ HTK.out, HM.out.trans G4.out⟩
    · have hk3 : k = 200 := by omega
      subst hk3
      go_wp2
      go_end0
      have hfin : t = runM bound now 200 s := HRUN.out
      exact ⟨rfl, hfin ▸ HB.out, hfin ▸ HTK.out, HM.out⟩
end Go.Proofs.Ytakglmdpaaiclaa
