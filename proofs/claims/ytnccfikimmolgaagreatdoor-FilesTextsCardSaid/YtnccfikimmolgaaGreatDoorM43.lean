/-
  Several texts in one, in their build order. The walks of the reference's Same, check, Bare, Align, Aligned, for every list. Conditions: the lists lie as told.
-/
import Derived.Test.YtnccfikimmolgaaGreatDoorM42
namespace Go.Proofs.YtnccfikimmolgaaGreatDoor
set_option linter.unusedSimpArgs false
set_option linter.unusedVariables false
open Go.RowKit

theorem eqF_pre {f g : FileV} : eqF f g = (!(f.len != g.len) && (!(f.pad != g.pad) && (!((f.path.length : Int) != g.path.length) && decide (f.path <+: g.path)))) := by
  unfold eqF
  simp only [bne, Bool.not_not]
  congr 2
  rw [Bool.eq_iff_iff]
  simp only [decide_eq_true_eq, Bool.and_eq_true, beq_iff_eq]
  constructor
  · intro h
    rw [h]
    exact ⟨rfl, List.prefix_rfl⟩
  · rintro ⟨h1, h2⟩
    exact h2.eq_of_length (by omega)
set_option maxRecDepth 100000 in
set_option maxHeartbeats 4000000 in
theorem rSame_any (a b : Option Addr) (c d : Nat) (l m : List FileV) (w : World) (h : FilesAt w a c l) (k : FilesAt w b d m) :
    Calls Tryz.prog 22 #[.slice a l.length c, .slice b m.length d] w fun e w' => e = .returned (.bool (sameB l m)) ∧ New w w' := by
  have hm1 := h.room; have hm2 := h.cap; have hm3 := k.room; have hm4 := k.cap
  unfold maxLen at hm2 hm4
  by_cases hl : l.length = m.length
  · have hb : ((l.length : Int) == m.length) = true := by simp; omega
    by_cases hz : 0 < l.length
    · obtain ⟨b1, o1, rfl, hb1, hc1⟩ := h.get hz
      obtain ⟨b2, o2, rfl, hb2, hc2⟩ := k.get (by omega)
      have HL := hid hl
      have HC1 := hid hc1; have HC2 := hid hc2
      clear h k hc1 hc2 hl
      go_enter Tryz.func22, Tryz.ntmps22
      go_wp2
      go_loopw [13] (fun i wr => ∃ j : Nat, i = .int .i64 j ∧ j ≤ l.length ∧ (∀ (k : Nat) (h1 : k < l.length) (h2 : k < m.length), k < j → eqF l[k] m[k] = true) ∧ New w wr) (fun i _ => l.length - (intOf i).toNat)
      case atStart => exact ⟨0, rfl, by omega, by intros; omega, Mod.refl _ _⟩
      case round =>
        obtain ⟨j, rfl, hj, hb, hn⟩ := hrel
        have HN := hid hn
        have HB := hid hb
        clear hb
        by_cases hlt : j < l.length
        · have hlt2 : j < m.length := by have := HL.out; omega
          have hli : (j : Int) < l.length := by omega
          have hli2 : (j : Int) < m.length := by omega
          obtain ⟨pa, pc, g0, g1, g2, hs1, -⟩ := (HC1.out j hlt).new hn
          obtain ⟨qa, qc, y0, y1, y2, hs2, -⟩ := (HC2.out j hlt2).new hn
          have HFE := hid (show ∀ f g, f = l[j] → g = m[j] → eqF f g = false → sameB l m = false from fun f g hf hg he => sameB_not hlt hlt2 (by rw [← hf, ← hg]; exact he))
          obtain ⟨f, hf⟩ : ∃ f, f = l[j] := ⟨_, rfl⟩
          obtain ⟨g, hg⟩ : ∃ g, g = m[j] := ⟨_, rfl⟩
          rw [← hf] at g0 g1 g2 hs1
          rw [← hg] at y0 y1 y2 hs2
          have HFG := hid (And.intro hf hg)
          have HW := hid (fun W (n : New wr W) => within_any pa qa pc qc f.path g.path W (hs1.new n) (hs2.new n))
          have HV := hid (eqF_pre (f := f) (g := g))
          clear hf hg hs1 hs2 hn
          cases d1 : (f.len != g.len) with
          | true =>
            rw [d1] at HV
            simp only [Bool.not_true, Bool.not_false, Bool.false_and] at HV
            have HE := hid (HFE.out f g HFG.out.1 HFG.out.2 HV.out)
            go_wp2_with fail
            go_quiet (fail)
            go_wp2
            go_ret
            exact ⟨ret_bool HE.out.symm, (HN.out.drewN _)⟩
          | false =>
            cases hfp : f.pad with
            | false =>
              cases hgp : g.pad with
              | false =>
                have d2 : (f.pad != g.pad) = false := by rw [hfp, hgp]; rfl
                rw [hfp] at g2
                rw [hgp] at y2
                clear hfp hgp
                cases d3 : ((f.path.length : Int) != g.path.length) with
                | true =>
                  rw [d1, d2, d3] at HV
                  simp only [Bool.not_true, Bool.not_false, Bool.false_and, Bool.and_false] at HV
                  have HE := hid (HFE.out f g HFG.out.1 HFG.out.2 HV.out)
                  go_wp2_with fail
                  go_quiet (fail)
                  go_wp2
                  go_ret
                  exact ⟨ret_bool HE.out.symm, (HN.out.drewN _)⟩
                | false =>
                  cases d4 : decide (f.path <+: g.path) with
                  | false =>
                    rw [d1, d2, d3, d4] at HV
                    rw [d4] at HW
                    simp only [Bool.not_true, Bool.not_false, Bool.false_and, Bool.and_false] at HV
                    clear d4
                    have HE := hid (HFE.out f g HFG.out.1 HFG.out.2 HV.out)
                    go_wp2_with fail
                    go_quiet ((go_at_call 49; exact quiet_left (HW.out _ ((Mod.refl _ _).drewN _))))
                    go_wp2
                    go_ret
                    exact ⟨ret_bool HE.out.symm, (HN.out.drewN _)⟩
                  | true =>
                    rw [d1, d2, d3, d4] at HV
                    rw [d4] at HW
                    have HE : Hid (eqF f g = true) := HV
                    clear d4
                    go_wp2_with fail
                    go_quiet ((go_at_call 49; exact quiet_left (HW.out _ ((Mod.refl _ _).drewN _))))
                    go_wp2
                    exact ⟨⟨j + 1, by simp, by omega, fun k h1 h2 hk => by rcases Nat.lt_succ_iff_lt_or_eq.1 hk with h | h; exact HB.out k h1 h2 h; subst h; rw [← HFG.out.1, ← HFG.out.2]; exact HE.out, HN.out.drewN _⟩, by simp [intOf]; omega⟩
              | true =>
                have d2 : (f.pad != g.pad) = true := by rw [hfp, hgp]; rfl
                rw [d1, d2] at HV
                simp only [Bool.not_true, Bool.not_false, Bool.false_and, Bool.and_false] at HV
                rw [hfp] at g2
                rw [hgp] at y2
                clear d2 hfp hgp
                have HE := hid (HFE.out f g HFG.out.1 HFG.out.2 HV.out)
                go_wp2_with fail
                go_quiet (fail)
                go_wp2
                go_ret
                exact ⟨ret_bool HE.out.symm, (HN.out.drewN _)⟩
            | true =>
              cases hgp : g.pad with
              | false =>
                have d2 : (f.pad != g.pad) = true := by rw [hfp, hgp]; rfl
                rw [d1, d2] at HV
                simp only [Bool.not_true, Bool.not_false, Bool.false_and, Bool.and_false] at HV
                rw [hfp] at g2
                rw [hgp] at y2
                clear d2 hfp hgp
                have HE := hid (HFE.out f g HFG.out.1 HFG.out.2 HV.out)
                go_wp2_with fail
                go_quiet (fail)
                go_wp2
                go_ret
                exact ⟨ret_bool HE.out.symm, (HN.out.drewN _)⟩
              | true =>
                have d2 : (f.pad != g.pad) = false := by rw [hfp, hgp]; rfl
                rw [hfp] at g2
                rw [hgp] at y2
                clear hfp hgp
                cases d3 : ((f.path.length : Int) != g.path.length) with
                | true =>
                  rw [d1, d2, d3] at HV
                  simp only [Bool.not_true, Bool.not_false, Bool.false_and, Bool.and_false] at HV
                  have HE := hid (HFE.out f g HFG.out.1 HFG.out.2 HV.out)
                  go_wp2_with fail
                  go_quiet (fail)
                  go_wp2
                  go_ret
                  exact ⟨ret_bool HE.out.symm, (HN.out.drewN _)⟩
                | false =>
                  cases d4 : decide (f.path <+: g.path) with
                  | false =>
                    rw [d1, d2, d3, d4] at HV
                    rw [d4] at HW
                    simp only [Bool.not_true, Bool.not_false, Bool.false_and, Bool.and_false] at HV
                    clear d4
                    have HE := hid (HFE.out f g HFG.out.1 HFG.out.2 HV.out)
                    go_wp2_with fail
                    go_quiet ((go_at_call 49; exact quiet_left (HW.out _ ((Mod.refl _ _).drewN _))))
                    go_wp2
                    go_ret
                    exact ⟨ret_bool HE.out.symm, (HN.out.drewN _)⟩
                  | true =>
                    rw [d1, d2, d3, d4] at HV
                    rw [d4] at HW
                    have HE : Hid (eqF f g = true) := HV
                    clear d4
                    go_wp2_with fail
                    go_quiet ((go_at_call 49; exact quiet_left (HW.out _ ((Mod.refl _ _).drewN _))))
                    go_wp2
                    exact ⟨⟨j + 1, by simp, by omega, fun k h1 h2 hk => by rcases Nat.lt_succ_iff_lt_or_eq.1 hk with h | h; exact HB.out k h1 h2 h; subst h; rw [← HFG.out.1, ← HFG.out.2]; exact HE.out, HN.out.drewN _⟩, by simp [intOf]; omega⟩
        · have HE := hid (sameB_all HL.out (fun k h1 h2 => HB.out k h1 h2 (by omega)))
          clear hn
          go_wp2
          go_ret
          exact ⟨ret_bool HE.out.symm, HN.out⟩
    · obtain rfl : l = [] := List.eq_nil_of_length_eq_zero (by omega)
      obtain rfl : m = [] := List.eq_nil_of_length_eq_zero (by simpa using hl.symm)
      clear h k
      go_enter Tryz.func22, Tryz.ntmps22
      go_wp2
      refine wp_loop_rounds 1 ?_
      rw [rounds_succ]
      go_wp2
      go_ret
      exact ⟨rfl, Mod.refl _ _⟩
  · have HE := hid (sameB_len hl)
    have hb : ((l.length : Int) == m.length) = false := beq_eq_false_iff_ne.2 (by omega)
    clear h k
    go_enter Tryz.func22, Tryz.ntmps22
    go_wp2
    go_ret
    exact ⟨ret_bool HE.out.symm, Mod.refl _ _⟩
end Go.Proofs.YtnccfikimmolgaaGreatDoor
