/-
  Several texts in one, in their build order. The walk of the reference's Valid, of any magnet. Condition: the magnet lies as told.
-/
import Derived.Test.YtbgmkplpolgebaaGreatDoorM32
namespace Go.Proofs.YtbgmkplpolgebaaGreatDoor
set_option linter.unusedSimpArgs false
set_option linter.unusedVariables false
open Go.RowKit Go.Shelf

set_option maxRecDepth 100000 in
set_option maxHeartbeats 16000000 in
theorem rValid_any (m : MgV) (p : MgP) (w : World) (h : MagAt w m p) :
    Calls Tryz.prog 19 #[magVal m p] w fun e w' => e = .returned (.bool (validMg m)) ∧ New w w' := by
  obtain ⟨ta, tc, pa, pc, sa, sc, oa, oc⟩ := p
  simp only [magVal, magRow]
  have BX : Hid (Blk (w.alloc (.cells #[.string m.old, .string m.new, .string m.name, .slice ta m.tr.length tc, .slice pa m.pe.length pc, .slice sa m.ws.length sc, .slice oa m.on.length oc] 27)) w.heap.size #[.string m.old, .string m.new, .string m.name, .slice ta m.tr.length tc, .slice pa m.pe.length pc, .slice sa m.ws.length sc, .slice oa m.on.length oc] 27) := hid (Blk.new w _ _)
  have NX : Hid (New w (w.alloc (.cells #[.string m.old, .string m.new, .string m.name, .slice ta m.tr.length tc, .slice pa m.pe.length pc, .slice sa m.ws.length sc, .slice oa m.on.length oc] 27))) := hid ((Mod.refl _ w).alloc _)
  have HT := hid (fun W (n : New w W) => rbound_any ta tc m.tr W (h.tr.new n))
  have HS := hid (fun W (n : New w W) => rbound_any sa sc m.ws W (h.ws.new n))
  have HR := hid (fun W (n : New w W) => ronly_any oa oc m.on W (h.on.new n))
  rw [show (decide (m.tr.length ≤ 10) && m.tr.all textM) = bT m from rfl] at HT
  rw [show (decide (m.ws.length ≤ 10) && m.ws.all textM) = bW m from rfl] at HS
  have HVF := hid (validMg_form m)
  have HPE := hid h.pe
  have r1 := h.pe.room; have r2 := h.pe.cap
  dsimp only at r1 r2
  unfold maxLen at r2
  obtain ⟨V, hV⟩ : ∃ V, V = validMg m := ⟨_, rfl⟩
  rw [← hV] at HVF ⊢
  clear h hV
  go_enter Tryz.func19, Tryz.ntmps19
  go_wp2_with fail
  go_loopw [8] (fun i wr => ∃ k : Nat, i = .int .i64 k ∧ k ≤ m.pe.length ∧ (∀ (j : Nat) (hj : j < m.pe.length), j < k → adrOk m.pe[j] = true) ∧ New w wr ∧ Blk wr w.heap.size #[.string m.old, .string m.new, .string m.name, .slice ta m.tr.length tc, .slice pa m.pe.length pc, .slice sa m.ws.length sc, .slice oa m.on.length oc] 27) (fun i _ => m.pe.length - (intOf i).toNat)
  case atStart => exact ⟨0, rfl, by omega, by intros; omega, NX.out, BX.out⟩
  case round =>
    obtain ⟨k, rfl, hk, hb, hn, hbl⟩ := hrel
    have HJ := hid hb
    have HN := hid hn; have HB := hid hbl
    clear hb hn hbl
    by_cases hlt : k < m.pe.length
    · obtain ⟨b1, o1, hpe, hb1, hc1⟩ := (HPE.out.new HN.out).get (by omega)
      (try dsimp only at hpe)
      subst hpe
      obtain ⟨g0, g1, g2⟩ := hc1 k hlt
      have HNO := hid (fun he => all_not (f := adrOk) hlt he)
      have HYE := hid (fun (he : adrOk m.pe[k] = true) (j : Nat) (hj : j < m.pe.length) (h : j < k + 1) => show adrOk m.pe[j] = true by rcases Nat.lt_succ_iff_lt_or_eq.1 h with h | h; exact HJ.out j hj h; subst h; exact he)
      obtain ⟨x, hx⟩ : ∃ x, x = m.pe[k] := ⟨_, rfl⟩
      rw [← hx] at g0 g1 g2 HNO HYE
      have HAV := hid (fun W => rAdrValid_any x W)
      clear hx hc1
      go_wp2_with fail
      refine name_worldA (p := fun W => Calls _ _ _ W _) (fun W hW => ?_)
      have NWx : New wr W := by
        rw [hW]
        repeat (first | with_reducible exact Mod.refl _ wr | with_reducible refine Mod.alloc ?_ _ | with_reducible refine Mod.drew ?_ | with_reducible refine Mod.drewN ?_ _ | (with_reducible refine Mod.set ?_ _ _ (by first | exact .inl rfl | (right; omega) | (right; simp; done) | (right; simp; omega) | (left; omega) | (left; simp; done) | (left; simp; omega))) | (with_reducible refine Mod.putObj ?_ _ _ (by first | exact .inl rfl | (right; omega) | (right; simp; done) | (right; simp; omega) | (left; omega) | (left; simp; done) | (left; simp; omega))))
      have NW := hid NWx
      clear hW NWx
      refine (HAV.out _).mono ?_
      rintro e w1 ⟨rfl, n1⟩
      have N1 := hid (HN.out.trans (NW.out.trans n1))
      have B1 := hid (New.blk (NW.out.trans n1) HB.out)
      clear n1
      cases he : adrOk x with
      | true =>
        have HE := hid (HYE.out he)
        clear he
        go_wp2
        exact ⟨⟨k + 1, by simp, by omega, HE.out, N1.out, B1.out⟩, by simp [intOf]; omega⟩
      | false =>
        have HV := hid (show V = false by rw [HVF.out, show bP m = false by unfold bP; rw [HNO.out he, Bool.and_false]]; simp)
        clear he
        go_wp2
        go_ret
        exact ⟨ret_bool HV.out.symm, N1.out⟩
    · have HPA := hid (show bP m = decide (m.pe.length ≤ 20) by unfold bP; rw [all_upto hlt (fun j hj h => HJ.out j hj h), Bool.and_true])
      have c0 := HB.out.cellv 0 rfl; have c1 := HB.out.cellv 1 rfl; have c2 := HB.out.cellv 2 rfl; have c3 := HB.out.cellv 3 rfl
      rcases sz3 20 20 rfl (by decide) m.old with ⟨o1, o2, o3, o4⟩ | ⟨o1, o5, o2, o3, o4, o6⟩ | ⟨o2, o3, o4, o6⟩
      · rcases sz3 32 32 rfl (by decide) m.new with ⟨n1, n2, n3, n4⟩ | ⟨n1, n5, n2, n3, n4, n6⟩ | ⟨n2, n3, n4, n6⟩
        · have hadd : ∀ w, (Op.stringOp .add m.old m.new).run Tryz.prog w = .ok (.string (m.old ++ m.new)) w := fun w => run_string_add_sum (w := w) _ _ (by omega)
          have q := both_sz m.old m.new
          rw [decide_eq_true o1, decide_eq_true n1] at q
          obtain ⟨q1, q2⟩ := (show ((m.old ++ m.new).toList == []) = true ∧ (m.old ++ m.new).toList.isEmpty = true from q)
          have q3 : ((m.old ++ m.new).toList != []) = !true := by rw [bne, q1]
          simp only [Bool.not_true, Bool.not_false] at q3
          obtain ⟨OM, hOM⟩ : ∃ OM, OM = m.old ++ m.new := ⟨_, rfl⟩
          rw [← hOM] at hadd q1 q2 q3
          clear hOM q
          have HTB := hid (show topsB m = false by rw [tops_sz o2 n2, decide_eq_true o1, decide_eq_true n1]; rfl)
          clear o1 n1 o2 n2
          have HV := hid (show V = false by rw [HVF.out, HTB.out]; rfl)
          go_wp2
          go_ret
          exact ⟨ret_bool HV.out.symm, HN.out⟩
        · have hadd : ∀ w, (Op.stringOp .add m.old m.new).run Tryz.prog w = .ok (.string (m.old ++ m.new)) w := fun w => run_string_add_sum (w := w) _ _ (by omega)
          have q := both_sz m.old m.new
          rw [decide_eq_true o1, decide_eq_false n5] at q
          obtain ⟨q1, q2⟩ := (show ((m.old ++ m.new).toList == []) = false ∧ (m.old ++ m.new).toList.isEmpty = false from q)
          have q3 : ((m.old ++ m.new).toList != []) = !false := by rw [bne, q1]
          simp only [Bool.not_true, Bool.not_false] at q3
          obtain ⟨OM, hOM⟩ : ∃ OM, OM = m.old ++ m.new := ⟨_, rfl⟩
          rw [← hOM] at hadd q1 q2 q3
          clear hOM q
          have HTB := hid (show topsB m = true by rw [tops_sz o2 n2, decide_eq_true o1, decide_eq_false n5]; rfl)
          clear o1 n1 n5 o2 n2
          have HV1 := hid (show V = (decide (m.name.size ≤ 100) && (bT m && (bW m && (bP m && onB m.on)))) by rw [HVF.out, HTB.out, Bool.true_and])
          by_cases hn : m.name.size ≤ 100
          rotate_left
          · have hI : ¬ (m.name.size : Int) ≤ 100 := by omega
            have HV := hid (show V = false by rw [HV1.out, decide_eq_false hn]; rfl)
            clear hn
            go_wp2
            go_ret
            exact ⟨ret_bool HV.out.symm, HN.out⟩
          have hI : (m.name.size : Int) ≤ 100 := by omega
          have HV2 := hid (show V = (bT m && (bW m && (bP m && onB m.on))) by rw [HV1.out, decide_eq_true hn, Bool.true_and])
          clear hn
          go_wp2_with fail
          refine (HT.out _ HN.out).mono ?_
          rintro e w1 ⟨rfl, n1⟩
          have N1 := hid (HN.out.trans n1)
          have B1 := hid (New.blk n1 HB.out)
          have c5 : w1.cell? ⟨w.heap.size, 5, none⟩ = some (.slice sa m.ws.length sc) := B1.out.cellv 5 rfl
          clear n1
          cases hb : bT m with
          | false =>
            have HV := hid (show V = false by rw [HV2.out, hb]; rfl)
            clear hb
            go_wp2
            go_ret
            exact ⟨ret_bool HV.out.symm, N1.out⟩
          | true =>
            have HV3 := hid (show V = (bW m && (bP m && onB m.on)) by rw [HV2.out, hb, Bool.true_and])
            clear hb
            go_wp2_with fail
            refine (HS.out _ N1.out).mono ?_
            rintro e w2 ⟨rfl, n2⟩
            have N2 := hid (N1.out.trans n2)
            have B2 := hid (New.blk n2 B1.out)
            have c4 : w2.cell? ⟨w.heap.size, 4, none⟩ = some (.slice pa m.pe.length pc) := B2.out.cellv 4 rfl
            have c6 : w2.cell? ⟨w.heap.size, 6, none⟩ = some (.slice oa m.on.length oc) := B2.out.cellv 6 rfl
            clear n2 c5
            cases hb : bW m with
            | false =>
              have HV := hid (show V = false by rw [HV3.out, hb]; rfl)
              clear hb
              go_wp2
              go_ret
              exact ⟨ret_bool HV.out.symm, N2.out⟩
            | true =>
              have HV4 := hid (show V = (bP m && onB m.on) by rw [HV3.out, hb, Bool.true_and])
              clear hb
              by_cases h20 : m.pe.length ≤ 20
              · have h20I : (m.pe.length : Int) ≤ 20 := by omega
                have HV := hid (show V = onB m.on by rw [HV4.out, HPA.out, decide_eq_true h20, Bool.true_and])
                clear h20
                go_wp2_with fail
                refine (HR.out _ N2.out).mono ?_
                rintro e w4 ⟨rfl, n4⟩
                have N4 := hid (N2.out.trans n4)
                clear n4 c6 c4
                obtain ⟨B, hB⟩ : ∃ B, B = onB m.on := ⟨_, rfl⟩
                rw [← hB] at HV ⊢
                clear hB
                go_wp2
                go_ret
                exact ⟨ret_bool HV.out.symm, N4.out⟩
              · have h20I : ¬ (m.pe.length : Int) ≤ 20 := by omega
                have HV := hid (show V = false by rw [HV4.out, HPA.out, decide_eq_false h20]; rfl)
                clear h20
                go_wp2
                go_ret
                exact ⟨ret_bool HV.out.symm, N2.out⟩
        · have HTB := hid (tops_new n2)
          clear o1 o2 n2
          have HV := hid (show V = false by rw [HVF.out, HTB.out]; rfl)
          go_wp2
          go_ret
          exact ⟨ret_bool HV.out.symm, HN.out⟩
      · rcases sz3 32 32 rfl (by decide) m.new with ⟨n1, n2, n3, n4⟩ | ⟨n1, n5, n2, n3, n4, n6⟩ | ⟨n2, n3, n4, n6⟩
        · have hadd : ∀ w, (Op.stringOp .add m.old m.new).run Tryz.prog w = .ok (.string (m.old ++ m.new)) w := fun w => run_string_add_sum (w := w) _ _ (by omega)
          have q := both_sz m.old m.new
          rw [decide_eq_false o5] at q
          obtain ⟨q1, q2⟩ := (show ((m.old ++ m.new).toList == []) = false ∧ (m.old ++ m.new).toList.isEmpty = false from q)
          have q3 : ((m.old ++ m.new).toList != []) = !false := by rw [bne, q1]
          simp only [Bool.not_true, Bool.not_false] at q3
          obtain ⟨OM, hOM⟩ : ∃ OM, OM = m.old ++ m.new := ⟨_, rfl⟩
          rw [← hOM] at hadd q1 q2 q3
          clear hOM q
          have HTB := hid (show topsB m = true by rw [tops_sz o2 n2, decide_eq_false o5]; rfl)
          clear o1 n1 o5 o2 n2
          have HV1 := hid (show V = (decide (m.name.size ≤ 100) && (bT m && (bW m && (bP m && onB m.on)))) by rw [HVF.out, HTB.out, Bool.true_and])
          by_cases hn : m.name.size ≤ 100
          rotate_left
          · have hI : ¬ (m.name.size : Int) ≤ 100 := by omega
            have HV := hid (show V = false by rw [HV1.out, decide_eq_false hn]; rfl)
            clear hn
            go_wp2
            go_ret
            exact ⟨ret_bool HV.out.symm, HN.out⟩
          have hI : (m.name.size : Int) ≤ 100 := by omega
          have HV2 := hid (show V = (bT m && (bW m && (bP m && onB m.on))) by rw [HV1.out, decide_eq_true hn, Bool.true_and])
          clear hn
          go_wp2_with fail
          refine (HT.out _ HN.out).mono ?_
          rintro e w1 ⟨rfl, n1⟩
          have N1 := hid (HN.out.trans n1)
          have B1 := hid (New.blk n1 HB.out)
          have c5 : w1.cell? ⟨w.heap.size, 5, none⟩ = some (.slice sa m.ws.length sc) := B1.out.cellv 5 rfl
          clear n1
          cases hb : bT m with
          | false =>
            have HV := hid (show V = false by rw [HV2.out, hb]; rfl)
            clear hb
            go_wp2
            go_ret
            exact ⟨ret_bool HV.out.symm, N1.out⟩
          | true =>
            have HV3 := hid (show V = (bW m && (bP m && onB m.on)) by rw [HV2.out, hb, Bool.true_and])
            clear hb
            go_wp2_with fail
            refine (HS.out _ N1.out).mono ?_
            rintro e w2 ⟨rfl, n2⟩
            have N2 := hid (N1.out.trans n2)
            have B2 := hid (New.blk n2 B1.out)
            have c4 : w2.cell? ⟨w.heap.size, 4, none⟩ = some (.slice pa m.pe.length pc) := B2.out.cellv 4 rfl
            have c6 : w2.cell? ⟨w.heap.size, 6, none⟩ = some (.slice oa m.on.length oc) := B2.out.cellv 6 rfl
            clear n2 c5
            cases hb : bW m with
            | false =>
              have HV := hid (show V = false by rw [HV3.out, hb]; rfl)
              clear hb
              go_wp2
              go_ret
              exact ⟨ret_bool HV.out.symm, N2.out⟩
            | true =>
              have HV4 := hid (show V = (bP m && onB m.on) by rw [HV3.out, hb, Bool.true_and])
              clear hb
              by_cases h20 : m.pe.length ≤ 20
              · have h20I : (m.pe.length : Int) ≤ 20 := by omega
                have HV := hid (show V = onB m.on by rw [HV4.out, HPA.out, decide_eq_true h20, Bool.true_and])
                clear h20
                go_wp2_with fail
                refine (HR.out _ N2.out).mono ?_
                rintro e w4 ⟨rfl, n4⟩
                have N4 := hid (N2.out.trans n4)
                clear n4 c6 c4
                obtain ⟨B, hB⟩ : ∃ B, B = onB m.on := ⟨_, rfl⟩
                rw [← hB] at HV ⊢
                clear hB
                go_wp2
                go_ret
                exact ⟨ret_bool HV.out.symm, N4.out⟩
              · have h20I : ¬ (m.pe.length : Int) ≤ 20 := by omega
                have HV := hid (show V = false by rw [HV4.out, HPA.out, decide_eq_false h20]; rfl)
                clear h20
                go_wp2
                go_ret
                exact ⟨ret_bool HV.out.symm, N2.out⟩
        · have hadd : ∀ w, (Op.stringOp .add m.old m.new).run Tryz.prog w = .ok (.string (m.old ++ m.new)) w := fun w => run_string_add_sum (w := w) _ _ (by omega)
          have q := both_sz m.old m.new
          rw [decide_eq_false o5] at q
          obtain ⟨q1, q2⟩ := (show ((m.old ++ m.new).toList == []) = false ∧ (m.old ++ m.new).toList.isEmpty = false from q)
          have q3 : ((m.old ++ m.new).toList != []) = !false := by rw [bne, q1]
          simp only [Bool.not_true, Bool.not_false] at q3
          obtain ⟨OM, hOM⟩ : ∃ OM, OM = m.old ++ m.new := ⟨_, rfl⟩
          rw [← hOM] at hadd q1 q2 q3
          clear hOM q
          have HTB := hid (show topsB m = true by rw [tops_sz o2 n2, decide_eq_false o5]; rfl)
          clear o1 n1 o5 n5 o2 n2
          have HV1 := hid (show V = (decide (m.name.size ≤ 100) && (bT m && (bW m && (bP m && onB m.on)))) by rw [HVF.out, HTB.out, Bool.true_and])
          by_cases hn : m.name.size ≤ 100
          rotate_left
          · have hI : ¬ (m.name.size : Int) ≤ 100 := by omega
            have HV := hid (show V = false by rw [HV1.out, decide_eq_false hn]; rfl)
            clear hn
            go_wp2
            go_ret
            exact ⟨ret_bool HV.out.symm, HN.out⟩
          have hI : (m.name.size : Int) ≤ 100 := by omega
          have HV2 := hid (show V = (bT m && (bW m && (bP m && onB m.on))) by rw [HV1.out, decide_eq_true hn, Bool.true_and])
          clear hn
          go_wp2_with fail
          refine (HT.out _ HN.out).mono ?_
          rintro e w1 ⟨rfl, n1⟩
          have N1 := hid (HN.out.trans n1)
          have B1 := hid (New.blk n1 HB.out)
          have c5 : w1.cell? ⟨w.heap.size, 5, none⟩ = some (.slice sa m.ws.length sc) := B1.out.cellv 5 rfl
          clear n1
          cases hb : bT m with
          | false =>
            have HV := hid (show V = false by rw [HV2.out, hb]; rfl)
            clear hb
            go_wp2
            go_ret
            exact ⟨ret_bool HV.out.symm, N1.out⟩
          | true =>
            have HV3 := hid (show V = (bW m && (bP m && onB m.on)) by rw [HV2.out, hb, Bool.true_and])
            clear hb
            go_wp2_with fail
            refine (HS.out _ N1.out).mono ?_
            rintro e w2 ⟨rfl, n2⟩
            have N2 := hid (N1.out.trans n2)
            have B2 := hid (New.blk n2 B1.out)
            have c4 : w2.cell? ⟨w.heap.size, 4, none⟩ = some (.slice pa m.pe.length pc) := B2.out.cellv 4 rfl
            have c6 : w2.cell? ⟨w.heap.size, 6, none⟩ = some (.slice oa m.on.length oc) := B2.out.cellv 6 rfl
            clear n2 c5
            cases hb : bW m with
            | false =>
              have HV := hid (show V = false by rw [HV3.out, hb]; rfl)
              clear hb
              go_wp2
              go_ret
              exact ⟨ret_bool HV.out.symm, N2.out⟩
            | true =>
              have HV4 := hid (show V = (bP m && onB m.on) by rw [HV3.out, hb, Bool.true_and])
              clear hb
              by_cases h20 : m.pe.length ≤ 20
              · have h20I : (m.pe.length : Int) ≤ 20 := by omega
                have HV := hid (show V = onB m.on by rw [HV4.out, HPA.out, decide_eq_true h20, Bool.true_and])
                clear h20
                go_wp2_with fail
                refine (HR.out _ N2.out).mono ?_
                rintro e w4 ⟨rfl, n4⟩
                have N4 := hid (N2.out.trans n4)
                clear n4 c6 c4
                obtain ⟨B, hB⟩ : ∃ B, B = onB m.on := ⟨_, rfl⟩
                rw [← hB] at HV ⊢
                clear hB
                go_wp2
                go_ret
                exact ⟨ret_bool HV.out.symm, N4.out⟩
              · have h20I : ¬ (m.pe.length : Int) ≤ 20 := by omega
                have HV := hid (show V = false by rw [HV4.out, HPA.out, decide_eq_false h20]; rfl)
                clear h20
                go_wp2
                go_ret
                exact ⟨ret_bool HV.out.symm, N2.out⟩
        · have HTB := hid (tops_new n2)
          clear o1 o5 o2 n2
          have HV := hid (show V = false by rw [HVF.out, HTB.out]; rfl)
          go_wp2
          go_ret
          exact ⟨ret_bool HV.out.symm, HN.out⟩
      · have HTB := hid (tops_old o2)
        clear o2
        have HV := hid (show V = false by rw [HVF.out, HTB.out]; rfl)
        go_wp2
        go_ret
        exact ⟨ret_bool HV.out.symm, HN.out⟩
end Go.Proofs.YtbgmkplpolgebaaGreatDoor
