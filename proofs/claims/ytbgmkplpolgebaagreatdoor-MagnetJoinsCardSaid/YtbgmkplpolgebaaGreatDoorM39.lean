/-
  Several texts in one, in their build order. Each text once (the reference: once). Conditions: the lists lie as told; they are small. The walk of the reference's Valid, of any magnet. Condition: the magnet lies as told. The bits of either (the reference: Join). Conditions: the fields are right; at most 4096 bits.
-/
import Derived.Test.YtbgmkplpolgebaaGreatDoorM34
import Derived.Test.YtbgmkplpolgebaaGreatDoorM32
import Derived.Test.YtbgmkplpolgebaaGreatDoorM30
import Derived.Test.YtbgmkplpolgebaaGreatDoorM18
namespace Go.Proofs.YtbgmkplpolgebaaGreatDoor
set_option linter.unusedSimpArgs false
set_option linter.unusedVariables false
open Go.RowKit Go.Shelf

theorem OwnS.fresh (w : World) (base : Nat) (hb : base ≤ w.heap.size) : OwnS (w.alloc (.cells #[] 9)) base (.slice (some ⟨w.heap.size, 0, none⟩) 0 0) [] :=
  ⟨⟨rfl, .inr ⟨w.heap.size, 0, #[], rfl, hb, Blk.new w #[] 9, Nat.le_refl _, by simp [maxLen], rfl, rfl⟩⟩, by simp⟩
theorem OwnA.fresh (w : World) (base : Nat) (hb : base ≤ w.heap.size) : OwnA (w.alloc (.cells #[] 64)) base (.slice (some ⟨w.heap.size, 0, none⟩) 0 0) [] :=
  ⟨⟨rfl, .inr ⟨w.heap.size, 0, #[], rfl, hb, Blk.new w #[] 64, Nat.le_refl _, by simp [maxLen], rfl, rfl⟩⟩⟩
theorem hasX_next {α : Type} [DecidableEq α] {O : List α} {x : α} {j : Nat} (h : j < O.length) : hasX x (O.take (j + 1)) = (hasX x (O.take j) || decide (O[j] = x)) := by
  unfold hasX
  rw [lst_next h, Bool.eq_iff_iff, Bool.or_eq_true, decide_eq_true_iff, decide_eq_true_iff, decide_eq_true_iff, List.mem_append, List.mem_singleton]
  exact ⟨fun q => q.imp id Eq.symm, fun q => q.imp id Eq.symm⟩
theorem hasX_zero {α : Type} [DecidableEq α] {O : List α} {x : α} : hasX x (O.take 0) = false := by
  unfold hasX
  simp
set_option maxRecDepth 100000 in
set_option maxHeartbeats 8000000 in
theorem rOnce_any (a b : Option Addr) (c d : Nat) (p q : List ByteArray) (w : World) (hp : StrsAt w a c p) (hq : StrsAt w b d q) (ha : a = none → c = 0) (hb : b = none → d = 0) (hl : p.length + q.length ≤ 50000) :
    Calls Tryz.prog 42 #[.slice a p.length c, .slice b q.length d] w fun e w' => ∃ v, e = .returned v ∧ OwnS w' w.heap.size v (onceL (p ++ q)) ∧ New w w' := by
  obtain ⟨i0, hi, hz0, hz1, hz2⟩ := info_parts info_strM
  have NA : New w (w.alloc (.cells #[] 9)) := (Mod.refl _ w).alloc _
  obtain ⟨v1, W1, hr1, ho1, hg1, -⟩ := cat_runS (OwnS.fresh w w.heap.size (Nat.le_refl _)) (hp.new NA) ha (by simp; omega) NA.size
  have N1 : New w W1 := newGrown NA hg1 (fun j hj => ((OwnS.fresh w w.heap.size (Nat.le_refl _)).block hj).1)
  obtain ⟨v2, W2, hr2, ho2, hg2, -⟩ := cat_runS ho1 (hq.new N1) hb (by simp; omega) N1.size
  have N2x : New w W2 := newGrown N1 hg2 (fun j hj => (ho1.block hj).1)
  rw [List.nil_append] at ho1 ho2
  have hll : (p ++ q).length ≤ 50000 := by rw [List.length_append]; exact hl
  obtain ⟨L, hL⟩ : ∃ L, L = p ++ q := ⟨_, rfl⟩
  rw [← hL] at ho2 hll ⊢
  have HSM := hid ho2.small
  obtain ⟨av, cv, hv2, hat⟩ := OwnS.at' ho2
  have HAT := hid hat
  have N2 := hid N2x
  have hc1 := hat.room; have hc2 := hat.cap
  unfold maxLen at hc2
  subst hv2
  clear hp hq ha hb hL ho1 ho2 hg1 hg2 N1 N2x NA hat
  go_enter Tryz.func42, Tryz.ntmps42
  go_wp2_with (first | (at_builtin; refine Lib.wpList_append_run _ rfl _ _ _ _ rfl _ _ rfl rfl _ _ hr1 ?_) | (at_builtin; refine Lib.wpList_append_run _ rfl _ _ _ _ rfl _ _ rfl rfl _ _ hr2 ?_) | fail)
  clear hr1 hr2
  go_loopw [5, 17] (fun o i wr => ∃ (k : Nat) (o' : Value), o' = o ∧ i = .int .i64 k ∧ k ≤ L.length ∧ OwnS wr W2.heap.size o' (onceL (L.take k)) ∧ New W2 wr) (fun _ i _ => L.length - (intOf i).toNat)
  case atStart => exact ⟨0, _, rfl, rfl, by omega, OwnS.nil _ _, Mod.refl _ _⟩
  case round =>
    obtain ⟨k, o, rfl, rfl, hk, ho, hn⟩ := hrel
    have HO := hid ho
    have HN := hid hn
    have hol := onceL_len (L.take k)
    rw [List.length_take] at hol
    by_cases hlt : k < L.length
    · obtain ⟨b1, o1, rfl, hb1, hcc⟩ := HAT.out.get (by omega)
      have g0 := hn.cellv (hcc k hlt)
      have hxs := HSM.out _ (List.getElem_mem hlt)
      obtain ⟨oa, oc, hof, hoa⟩ := OwnS.at' ho
      have HOA := hid hoa
      have hr1 := hoa.room; have hr2 := hoa.cap
      unfold maxLen at hr2
      have HYE := hid (fun hh => once_yes hlt hh)
      have HNE := hid (fun hh => once_new hlt hh)
      obtain ⟨x, hx⟩ : ∃ x, x = L[k] := ⟨_, rfl⟩
      rw [← hx] at g0 HYE HNE hxs
      obtain ⟨O, hO⟩ : ∃ O, O = onceL (L.take k) := ⟨_, rfl⟩
      rw [← hO] at HO HOA HYE HNE hol hof hr1
      subst hof
      clear hcc ho hn hoa hx hO
      go_wp2_with fail
      go_loop [8, 23] (fun th i => ∃ j : Nat, i = .int .i64 j ∧ j ≤ O.length ∧ th = .bool (hasX x (O.take j))) (fun _ i => O.length - (intOf i).toNat)
      case atStart => exact ⟨0, rfl, by omega, by rw [hasX_zero]⟩
      case round =>
        obtain ⟨j, rfl, hj, rfl⟩ := hrel
        by_cases hjl : j < O.length
        · obtain ⟨b2, o2, rfl, hb2, hcc2⟩ := HOA.out.get (by omega)
          have y0 := hcc2 j hjl
          have HNX := hid (hasX_next (x := x) hjl)
          obtain ⟨y, hy⟩ : ∃ y, y = O[j] := ⟨_, rfl⟩
          rw [← hy] at y0 HNX
          obtain ⟨B, hB⟩ : ∃ B, B = hasX x (O.take j) := ⟨_, rfl⟩
          rw [← hB] at HNX ⊢
          clear hcc2 hy hB
          cases B with
          | true =>
            have HT := hid (show hasX x (O.take (j + 1)) = true by rw [HNX.out]; rfl)
            go_wp2
            exact ⟨⟨j + 1, by simp, by omega, by rw [HT.out]⟩, by simp [intOf]; omega⟩
          | false =>
            by_cases he : y = x
            · have hyx := (neS he).1
              have HT := hid (show hasX x (O.take (j + 1)) = true by rw [HNX.out, decide_eq_true he]; rfl)
              clear he
              go_wp2
              exact ⟨⟨j + 1, by simp, by omega, by rw [HT.out]⟩, by simp [intOf]; omega⟩
            · have hyx := (neN he).1
              have HT := hid (show hasX x (O.take (j + 1)) = false by rw [HNX.out, decide_eq_false he]; rfl)
              clear he
              go_wp2
              exact ⟨⟨j + 1, by simp, by omega, by rw [HT.out]⟩, by simp [intOf]; omega⟩
        · rw [List.take_of_length_le (by omega)]
          cases hh : hasX x O with
          | true =>
            have HNX := hid (HYE.out hh)
            clear hh
            go_wp2
            exact ⟨⟨k + 1, _, rfl, by simp, by omega, by rw [HNX.out]; exact HO.out, HN.out⟩, by simp [intOf]; omega⟩
          | false =>
            have HNX := hid (HNE.out hh)
            clear hh
            go_wp2_with (first | (at_builtin; refine wpList_append_own_at _ rfl _ _ 23 rfl W2.heap.size 9 i0 _ 1 16 Tryz.underlying23 hi hz0 hz1 hz2 rfl (by decide) (.slice oa O.length oc) O.length (O.map Value.string) rfl ?zow ⟨wr.heap.size, 0, none⟩ 1 1 [.string x] rfl rfl ?zhn ?zh1 ?zh63 ?zhby ?zhba ?_) | fail)
            case zow => exact (HO.out.new ((Mod.refl _ _).alloc _)).row
            try case zhn => exact cell_one_new _ _ _
            try case zh1 => first | rfl | (intro u hu; simp at hu; subst hu; rfl)
            case zh63 => unfold maxLen; omega
            case zhby => omega
            case zhba => have := HN.out.size; simp; omega
            intro o' w' r' g' _ hat
            have H2 := hid (ownS_of HO.out.small hxs r')
            have NN := hid (newGrown (HN.out.alloc (.cells #[.string x] 9)) g' (fun j hj => (HO.out.block hj).1))
            clear r' g' hat
            go_wp2
            exact ⟨⟨k + 1, _, rfl, by simp, by omega, by rw [HNX.out]; exact H2.out, NN.out⟩, by simp [intOf]; omega⟩
    · have hkk : L.take k = L := List.take_of_length_le (by omega)
      rw [hkk] at HO
      have NF := hid (N2.out.trans HN.out)
      have HBS := hid N2.out.size
      clear hkk ho hn
      go_wp2
      go_ret
      exact ⟨_, rfl, HO.out.base HBS.out, NF.out⟩
end Go.Proofs.YtbgmkplpolgebaaGreatDoor

namespace Go.Proofs.YtbgmkplpolgebaaGreatDoor
set_option linter.unusedSimpArgs false
set_option linter.unusedVariables false
open Go.RowKit Go.Shelf

set_option maxRecDepth 100000 in
set_option maxHeartbeats 16000000 in
theorem rValid_any (m : MgV) (p : MgP) (w : World) (h : MagAt w m p) :
    Calls Tryz.prog 19 #[magVal m p] w fun e w' => e = .returned (.bool (validMg m)) ∧ New w w' := by
  obtain ⟨ta, tc, pa, pc, sa, sc, oa, oc⟩ := p
  simp only [magVal, magRow]
  have BX : Hid (Blk (w.alloc (.cells #[.string m.old, .string m.new, .string m.name, .slice ta m.tr.length tc, .slice pa m.pe.length pc, .slice sa m.ws.length sc, .slice oa m.on.length oc] 27)) w.heap.size #[.string m.old, .string m.new, .string m.name, .slice ta m.tr.length tc, .slice pa m.pe.length pc, .slice sa m.ws.length sc, .slice oa m.on.length oc] 27) := hid (Blk.new w _ _)
  have NX : Hid (New w (w.alloc (.cells #[.string m.old, .string m.new, .string m.name, .slice ta m.tr.length tc, .slice pa m.pe.length pc, .slice sa m.ws.length sc, .slice oa m.on.length oc] 27))) := hid ((Mod.refl _ w).alloc _)
  have HT := hid (fun W (n : New w W) => rbound_any ta tc m.tr W (h.tr.new n))
  have HS := hid (fun W (n : New w W) => rbound_any sa sc m.ws W (h.ws.new n))
  have HR := hid (fun W (n : New w W) => ronly_any oa oc m.on W (h.on.new n))
  rw [show (decide (m.tr.length ≤ 10) && m.tr.all textM) = bT m from rfl] at HT
  rw [show (decide (m.ws.length ≤ 10) && m.ws.all textM) = bW m from rfl] at HS
  have HVF := hid (validMg_form m)
  have HPE := hid h.pe
  have r1 := h.pe.room; have r2 := h.pe.cap
  dsimp only at r1 r2
  unfold maxLen at r2
  obtain ⟨V, hV⟩ : ∃ V, V = validMg m := ⟨_, rfl⟩
  rw [← hV] at HVF ⊢
  clear h hV
  go_enter Tryz.func19, Tryz.ntmps19
  go_wp2_with fail
  go_loopw [8] (fun i wr => ∃ k : Nat, i = .int .i64 k ∧ k ≤ m.pe.length ∧ (∀ (j : Nat) (hj : j < m.pe.length), j < k → adrOk m.pe[j] = true) ∧ New w wr ∧ Blk wr w.heap.size #[.string m.old, .string m.new, .string m.name, .slice ta m.tr.length tc, .slice pa m.pe.length pc, .slice sa m.ws.length sc, .slice oa m.on.length oc] 27) (fun i _ => m.pe.length - (intOf i).toNat)
  case atStart => exact ⟨0, rfl, by omega, by intros; omega, NX.out, BX.out⟩
  case round =>
    obtain ⟨k, rfl, hk, hb, hn, hbl⟩ := hrel
    have HJ := hid hb
    have HN := hid hn; have HB := hid hbl
    clear hb hn hbl
    by_cases hlt : k < m.pe.length
    · obtain ⟨b1, o1, hpe, hb1, hc1⟩ := (HPE.out.new HN.out).get (by omega)
      (try dsimp only at hpe)
      subst hpe
      obtain ⟨g0, g1, g2⟩ := hc1 k hlt
      have HNO := hid (fun he => all_not (f := adrOk) hlt he)
      have HYE := hid (fun (he : adrOk m.pe[k] = true) (j : Nat) (hj : j < m.pe.length) (h : j < k + 1) => show adrOk m.pe[j] = true by rcases Nat.lt_succ_iff_lt_or_eq.1 h with h | h; exact HJ.out j hj h; subst h; exact he)
      obtain ⟨x, hx⟩ : ∃ x, x = m.pe[k] := ⟨_, rfl⟩
      rw [← hx] at g0 g1 g2 HNO HYE
      have HAV := hid (fun W => rAdrValid_any x W)
      clear hx hc1
      go_wp2_with fail
      refine name_worldA (p := fun W => Calls _ _ _ W _) (fun W hW => ?_)
      have NWx : New wr W := by
        rw [hW]
        repeat (first | with_reducible exact Mod.refl _ wr | with_reducible refine Mod.alloc ?_ _ | with_reducible refine Mod.drew ?_ | with_reducible refine Mod.drewN ?_ _ | (with_reducible refine Mod.set ?_ _ _ (by first | exact .inl rfl | (right; omega) | (right; simp; done) | (right; simp; omega) | (left; omega) | (left; simp; done) | (left; simp; omega))) | (with_reducible refine Mod.putObj ?_ _ _ (by first | exact .inl rfl | (right; omega) | (right; simp; done) | (right; simp; omega) | (left; omega) | (left; simp; done) | (left; simp; omega))))
      have NW := hid NWx
      clear hW NWx
      refine (HAV.out _).mono ?_
      rintro e w1 ⟨rfl, n1⟩
      have N1 := hid (HN.out.trans (NW.out.trans n1))
      have B1 := hid (New.blk (NW.out.trans n1) HB.out)
      clear n1
      cases he : adrOk x with
      | true =>
        have HE := hid (HYE.out he)
        clear he
        go_wp2
        exact ⟨⟨k + 1, by simp, by omega, HE.out, N1.out, B1.out⟩, by simp [intOf]; omega⟩
      | false =>
        have HV := hid (show V = false by rw [HVF.out, show bP m = false by unfold bP; rw [HNO.out he, Bool.and_false]]; simp)
        clear he
        go_wp2
        go_ret
        exact ⟨ret_bool HV.out.symm, N1.out⟩
    · have HPA := hid (show bP m = decide (m.pe.length ≤ 20) by unfold bP; rw [all_upto hlt (fun j hj h => HJ.out j hj h), Bool.and_true])
      have c0 := HB.out.cellv 0 rfl; have c1 := HB.out.cellv 1 rfl; have c2 := HB.out.cellv 2 rfl; have c3 := HB.out.cellv 3 rfl
      rcases sz3 20 20 rfl (by decide) m.old with ⟨o1, o2, o3, o4⟩ | ⟨o1, o5, o2, o3, o4, o6⟩ | ⟨o2, o3, o4, o6⟩
      · rcases sz3 32 32 rfl (by decide) m.new with ⟨n1, n2, n3, n4⟩ | ⟨n1, n5, n2, n3, n4, n6⟩ | ⟨n2, n3, n4, n6⟩
        · have hadd : ∀ w, (Op.stringOp .add m.old m.new).run Tryz.prog w = .ok (.string (m.old ++ m.new)) w := fun w => run_string_add_sum (w := w) _ _ (by omega)
          have q := both_sz m.old m.new
          rw [decide_eq_true o1, decide_eq_true n1] at q
          obtain ⟨q1, q2⟩ := (show ((m.old ++ m.new).toList == []) = true ∧ (m.old ++ m.new).toList.isEmpty = true from q)
          have q3 : ((m.old ++ m.new).toList != []) = !true := by rw [bne, q1]
          simp only [Bool.not_true, Bool.not_false] at q3
          obtain ⟨OM, hOM⟩ : ∃ OM, OM = m.old ++ m.new := ⟨_, rfl⟩
          rw [← hOM] at hadd q1 q2 q3
          clear hOM q
          have HTB := hid (show topsB m = false by rw [tops_sz o2 n2, decide_eq_true o1, decide_eq_true n1]; rfl)
          clear o1 n1 o2 n2
          have HV := hid (show V = false by rw [HVF.out, HTB.out]; rfl)
          go_wp2
          go_ret
          exact ⟨ret_bool HV.out.symm, HN.out⟩
        · have hadd : ∀ w, (Op.stringOp .add m.old m.new).run Tryz.prog w = .ok (.string (m.old ++ m.new)) w := fun w => run_string_add_sum (w := w) _ _ (by omega)
          have q := both_sz m.old m.new
          rw [decide_eq_true o1, decide_eq_false n5] at q
          obtain ⟨q1, q2⟩ := (show ((m.old ++ m.new).toList == []) = false ∧ (m.old ++ m.new).toList.isEmpty = false from q)
          have q3 : ((m.old ++ m.new).toList != []) = !false := by rw [bne, q1]
          simp only [Bool.not_true, Bool.not_false] at q3
          obtain ⟨OM, hOM⟩ : ∃ OM, OM = m.old ++ m.new := ⟨_, rfl⟩
          rw [← hOM] at hadd q1 q2 q3
          clear hOM q
          have HTB := hid (show topsB m = true by rw [tops_sz o2 n2, decide_eq_true o1, decide_eq_false n5]; rfl)
          clear o1 n1 n5 o2 n2
          have HV1 := hid (show V = (decide (m.name.size ≤ 100) && (bT m && (bW m && (bP m && onB m.on)))) by rw [HVF.out, HTB.out, Bool.true_and])
          by_cases hn : m.name.size ≤ 100
          rotate_left
          · have hI : ¬ (m.name.size : Int) ≤ 100 := by omega
            have HV := hid (show V = false by rw [HV1.out, decide_eq_false hn]; rfl)
            clear hn
            go_wp2
            go_ret
            exact ⟨ret_bool HV.out.symm, HN.out⟩
          have hI : (m.name.size : Int) ≤ 100 := by omega
          have HV2 := hid (show V = (bT m && (bW m && (bP m && onB m.on))) by rw [HV1.out, decide_eq_true hn, Bool.true_and])
          clear hn
          go_wp2_with fail
          refine (HT.out _ HN.out).mono ?_
          rintro e w1 ⟨rfl, n1⟩
          have N1 := hid (HN.out.trans n1)
          have B1 := hid (New.blk n1 HB.out)
          have c5 : w1.cell? ⟨w.heap.size, 5, none⟩ = some (.slice sa m.ws.length sc) := B1.out.cellv 5 rfl
          clear n1
          cases hb : bT m with
          | false =>
            have HV := hid (show V = false by rw [HV2.out, hb]; rfl)
            clear hb
            go_wp2
            go_ret
            exact ⟨ret_bool HV.out.symm, N1.out⟩
          | true =>
            have HV3 := hid (show V = (bW m && (bP m && onB m.on)) by rw [HV2.out, hb, Bool.true_and])
            clear hb
            go_wp2_with fail
            refine (HS.out _ N1.out).mono ?_
            rintro e w2 ⟨rfl, n2⟩
            have N2 := hid (N1.out.trans n2)
            have B2 := hid (New.blk n2 B1.out)
            have c4 : w2.cell? ⟨w.heap.size, 4, none⟩ = some (.slice pa m.pe.length pc) := B2.out.cellv 4 rfl
            have c6 : w2.cell? ⟨w.heap.size, 6, none⟩ = some (.slice oa m.on.length oc) := B2.out.cellv 6 rfl
            clear n2 c5
            cases hb : bW m with
            | false =>
              have HV := hid (show V = false by rw [HV3.out, hb]; rfl)
              clear hb
              go_wp2
              go_ret
              exact ⟨ret_bool HV.out.symm, N2.out⟩
            | true =>
              have HV4 := hid (show V = (bP m && onB m.on) by rw [HV3.out, hb, Bool.true_and])
              clear hb
              by_cases h20 : m.pe.length ≤ 20
              · have h20I : (m.pe.length : Int) ≤ 20 := by omega
                have HV := hid (show V = onB m.on by rw [HV4.out, HPA.out, decide_eq_true h20, Bool.true_and])
                clear h20
                go_wp2_with fail
                refine (HR.out _ N2.out).mono ?_
                rintro e w4 ⟨rfl, n4⟩
                have N4 := hid (N2.out.trans n4)
                clear n4 c6 c4
                obtain ⟨B, hB⟩ : ∃ B, B = onB m.on := ⟨_, rfl⟩
                rw [← hB] at HV ⊢
                clear hB
                go_wp2
                go_ret
                exact ⟨ret_bool HV.out.symm, N4.out⟩
              · have h20I : ¬ (m.pe.length : Int) ≤ 20 := by omega
                have HV := hid (show V = false by rw [HV4.out, HPA.out, decide_eq_false h20]; rfl)
                clear h20
                go_wp2
                go_ret
                exact ⟨ret_bool HV.out.symm, N2.out⟩
        · have HTB := hid (tops_new n2)
          clear o1 o2 n2
          have HV := hid (show V = false by rw [HVF.out, HTB.out]; rfl)
          go_wp2
          go_ret
          exact ⟨ret_bool HV.out.symm, HN.out⟩
      · rcases sz3 32 32 rfl (by decide) m.new with ⟨n1, n2, n3, n4⟩ | ⟨n1, n5, n2, n3, n4, n6⟩ | ⟨n2, n3, n4, n6⟩
        · have hadd : ∀ w, (Op.stringOp .add m.old m.new).run Tryz.prog w = .ok (.string (m.old ++ m.new)) w := fun w => run_string_add_sum (w := w) _ _ (by omega)
          have q := both_sz m.old m.new
          rw [decide_eq_false o5] at q
          obtain ⟨q1, q2⟩ := (show ((m.old ++ m.new).toList == []) = false ∧ (m.old ++ m.new).toList.isEmpty = false from q)
          have q3 : ((m.old ++ m.new).toList != []) = !false := by rw [bne, q1]
          simp only [Bool.not_true, Bool.not_false] at q3
          obtain ⟨OM, hOM⟩ : ∃ OM, OM = m.old ++ m.new := ⟨_, rfl⟩
          rw [← hOM] at hadd q1 q2 q3
          clear hOM q
          have HTB := hid (show topsB m = true by rw [tops_sz o2 n2, decide_eq_false o5]; rfl)
          clear o1 n1 o5 o2 n2
          have HV1 := hid (show V = (decide (m.name.size ≤ 100) && (bT m && (bW m && (bP m && onB m.on)))) by rw [HVF.out, HTB.out, Bool.true_and])
          by_cases hn : m.name.size ≤ 100
          rotate_left
          · have hI : ¬ (m.name.size : Int) ≤ 100 := by omega
            have HV := hid (show V = false by rw [HV1.out, decide_eq_false hn]; rfl)
            clear hn
            go_wp2
            go_ret
            exact ⟨ret_bool HV.out.symm, HN.out⟩
          have hI : (m.name.size : Int) ≤ 100 := by omega
          have HV2 := hid (show V = (bT m && (bW m && (bP m && onB m.on))) by rw [HV1.out, decide_eq_true hn, Bool.true_and])
          clear hn
          go_wp2_with fail
          refine (HT.out _ HN.out).mono ?_
          rintro e w1 ⟨rfl, n1⟩
          have N1 := hid (HN.out.trans n1)
          have B1 := hid (New.blk n1 HB.out)
          have c5 : w1.cell? ⟨w.heap.size, 5, none⟩ = some (.slice sa m.ws.length sc) := B1.out.cellv 5 rfl
          clear n1
          cases hb : bT m with
          | false =>
            have HV := hid (show V = false by rw [HV2.out, hb]; rfl)
            clear hb
            go_wp2
            go_ret
            exact ⟨ret_bool HV.out.symm, N1.out⟩
          | true =>
            have HV3 := hid (show V = (bW m && (bP m && onB m.on)) by rw [HV2.out, hb, Bool.true_and])
            clear hb
            go_wp2_with fail
            refine (HS.out _ N1.out).mono ?_
            rintro e w2 ⟨rfl, n2⟩
            have N2 := hid (N1.out.trans n2)
            have B2 := hid (New.blk n2 B1.out)
            have c4 : w2.cell? ⟨w.heap.size, 4, none⟩ = some (.slice pa m.pe.length pc) := B2.out.cellv 4 rfl
            have c6 : w2.cell? ⟨w.heap.size, 6, none⟩ = some (.slice oa m.on.length oc) := B2.out.cellv 6 rfl
            clear n2 c5
            cases hb : bW m with
            | false =>
              have HV := hid (show V = false by rw [HV3.out, hb]; rfl)
              clear hb
              go_wp2
              go_ret
              exact ⟨ret_bool HV.out.symm, N2.out⟩
            | true =>
              have HV4 := hid (show V = (bP m && onB m.on) by rw [HV3.out, hb, Bool.true_and])
              clear hb
              by_cases h20 : m.pe.length ≤ 20
              · have h20I : (m.pe.length : Int) ≤ 20 := by omega
                have HV := hid (show V = onB m.on by rw [HV4.out, HPA.out, decide_eq_true h20, Bool.true_and])
                clear h20
                go_wp2_with fail
                refine (HR.out _ N2.out).mono ?_
                rintro e w4 ⟨rfl, n4⟩
                have N4 := hid (N2.out.trans n4)
                clear n4 c6 c4
                obtain ⟨B, hB⟩ : ∃ B, B = onB m.on := ⟨_, rfl⟩
                rw [← hB] at HV ⊢
                clear hB
                go_wp2
                go_ret
                exact ⟨ret_bool HV.out.symm, N4.out⟩
              · have h20I : ¬ (m.pe.length : Int) ≤ 20 := by omega
                have HV := hid (show V = false by rw [HV4.out, HPA.out, decide_eq_false h20]; rfl)
                clear h20
                go_wp2
                go_ret
                exact ⟨ret_bool HV.out.symm, N2.out⟩
        · have hadd : ∀ w, (Op.stringOp .add m.old m.new).run Tryz.prog w = .ok (.string (m.old ++ m.new)) w := fun w => run_string_add_sum (w := w) _ _ (by omega)
          have q := both_sz m.old m.new
          rw [decide_eq_false o5] at q
          obtain ⟨q1, q2⟩ := (show ((m.old ++ m.new).toList == []) = false ∧ (m.old ++ m.new).toList.isEmpty = false from q)
          have q3 : ((m.old ++ m.new).toList != []) = !false := by rw [bne, q1]
          simp only [Bool.not_true, Bool.not_false] at q3
          obtain ⟨OM, hOM⟩ : ∃ OM, OM = m.old ++ m.new := ⟨_, rfl⟩
          rw [← hOM] at hadd q1 q2 q3
          clear hOM q
          have HTB := hid (show topsB m = true by rw [tops_sz o2 n2, decide_eq_false o5]; rfl)
          clear o1 n1 o5 n5 o2 n2
          have HV1 := hid (show V = (decide (m.name.size ≤ 100) && (bT m && (bW m && (bP m && onB m.on)))) by rw [HVF.out, HTB.out, Bool.true_and])
          by_cases hn : m.name.size ≤ 100
          rotate_left
          · have hI : ¬ (m.name.size : Int) ≤ 100 := by omega
            have HV := hid (show V = false by rw [HV1.out, decide_eq_false hn]; rfl)
            clear hn
            go_wp2
            go_ret
            exact ⟨ret_bool HV.out.symm, HN.out⟩
          have hI : (m.name.size : Int) ≤ 100 := by omega
          have HV2 := hid (show V = (bT m && (bW m && (bP m && onB m.on))) by rw [HV1.out, decide_eq_true hn, Bool.true_and])
          clear hn
          go_wp2_with fail
          refine (HT.out _ HN.out).mono ?_
          rintro e w1 ⟨rfl, n1⟩
          have N1 := hid (HN.out.trans n1)
          have B1 := hid (New.blk n1 HB.out)
          have c5 : w1.cell? ⟨w.heap.size, 5, none⟩ = some (.slice sa m.ws.length sc) := B1.out.cellv 5 rfl
          clear n1
          cases hb : bT m with
          | false =>
            have HV := hid (show V = false by rw [HV2.out, hb]; rfl)
            clear hb
            go_wp2
            go_ret
            exact ⟨ret_bool HV.out.symm, N1.out⟩
          | true =>
            have HV3 := hid (show V = (bW m && (bP m && onB m.on)) by rw [HV2.out, hb, Bool.true_and])
            clear hb
            go_wp2_with fail
            refine (HS.out _ N1.out).mono ?_
            rintro e w2 ⟨rfl, n2⟩
            have N2 := hid (N1.out.trans n2)
            have B2 := hid (New.blk n2 B1.out)
            have c4 : w2.cell? ⟨w.heap.size, 4, none⟩ = some (.slice pa m.pe.length pc) := B2.out.cellv 4 rfl
            have c6 : w2.cell? ⟨w.heap.size, 6, none⟩ = some (.slice oa m.on.length oc) := B2.out.cellv 6 rfl
            clear n2 c5
            cases hb : bW m with
            | false =>
              have HV := hid (show V = false by rw [HV3.out, hb]; rfl)
              clear hb
              go_wp2
              go_ret
              exact ⟨ret_bool HV.out.symm, N2.out⟩
            | true =>
              have HV4 := hid (show V = (bP m && onB m.on) by rw [HV3.out, hb, Bool.true_and])
              clear hb
              by_cases h20 : m.pe.length ≤ 20
              · have h20I : (m.pe.length : Int) ≤ 20 := by omega
                have HV := hid (show V = onB m.on by rw [HV4.out, HPA.out, decide_eq_true h20, Bool.true_and])
                clear h20
                go_wp2_with fail
                refine (HR.out _ N2.out).mono ?_
                rintro e w4 ⟨rfl, n4⟩
                have N4 := hid (N2.out.trans n4)
                clear n4 c6 c4
                obtain ⟨B, hB⟩ : ∃ B, B = onB m.on := ⟨_, rfl⟩
                rw [← hB] at HV ⊢
                clear hB
                go_wp2
                go_ret
                exact ⟨ret_bool HV.out.symm, N4.out⟩
              · have h20I : ¬ (m.pe.length : Int) ≤ 20 := by omega
                have HV := hid (show V = false by rw [HV4.out, HPA.out, decide_eq_false h20]; rfl)
                clear h20
                go_wp2
                go_ret
                exact ⟨ret_bool HV.out.symm, N2.out⟩
        · have HTB := hid (tops_new n2)
          clear o1 o5 o2 n2
          have HV := hid (show V = false by rw [HVF.out, HTB.out]; rfl)
          go_wp2
          go_ret
          exact ⟨ret_bool HV.out.symm, HN.out⟩
      · have HTB := hid (tops_old o2)
        clear o2
        have HV := hid (show V = false by rw [HVF.out, HTB.out]; rfl)
        go_wp2
        go_ret
        exact ⟨ret_bool HV.out.symm, HN.out⟩
end Go.Proofs.YtbgmkplpolgebaaGreatDoor

namespace Go.Proofs.YtbgmkplpolgebaaGreatDoor
set_option linter.unusedSimpArgs false
set_option linter.unusedVariables false
open Go.RowKit Go.Shelf

/-- The list of a field's truths, its block known. -/
theorem OwnC.blk {w : World} {base n : Nat} {v : Value} {S : List UInt8} (h : OwnC w 4 base v (bitV S n)) (hn : 0 < n) : ∃ g c cs, v = .slice (some ⟨g, 0, none⟩) n c ∧ n ≤ c ∧ c ≤ maxLen ∧ base ≤ g ∧ Blk w g cs 4 ∧ ∀ j, j < n → cs[j]? = some (.bool (bitL S j)) := by
  have hl : (bitV S n).length = n := by unfold bitV; simp
  have h0 : w.ownsRow base 4 1 v (bitV S n).length (bitV S n) := h
  rw [hl] at h0
  rcases h0.2 with ⟨-, q⟩ | ⟨g, cap, cur, rfl, hbg, hg, hnc, hcm, hcs, htake⟩
  · omega
  · refine ⟨g, cap, cur, rfl, hnc, hcm, hbg, hg, fun j hj => ?_⟩
    have e : (cur.toList.take (n * 1))[j]? = some (.bool (bitL S j)) := by
      rw [htake]
      unfold bitV
      simp [hj]
    rw [List.getElem?_take, if_pos (by omega)] at e
    simpa using e
set_option maxRecDepth 100000 in
set_option maxHeartbeats 8000000 in
theorem rJoin_any (n : Nat) (s t : ByteArray) (w : World) (h : FieldOf n s.data.toList) (k : FieldOf n t.data.toList) (hn : n ≤ 4096) (h0 : 0 < n) :
    Calls Tryz.prog 44 #[.int .i64 2, .int .i64 n, .string s, .string t] w fun e w' => e = .returned (.tuple #[.string (mkB (orL s.data.toList t.data.toList)), .int .i64 0]) ∧ New w w' := by
  have hST : s.data.toList.length = t.data.toList.length := h.len.trans k.len.symm
  have HCS := hid (fun W => rcheck_ok n s W h hn)
  have HCT := hid (fun W => rcheck_ok n t W k hn)
  have HTS := hid (fun W => rtruths_any n s W h hn)
  have HTT := hid (fun W => rtruths_any n t W k hn)
  have HFO := hid (h.or k)
  have HOB := hid (fun i => orL_bit hST i)
  obtain ⟨S, hS⟩ : ∃ S, S = s.data.toList := ⟨_, rfl⟩
  obtain ⟨T, hT⟩ : ∃ T, T = t.data.toList := ⟨_, rfl⟩
  rw [← hS] at HTS HFO HOB ⊢
  rw [← hT] at HTT HFO HOB ⊢
  obtain ⟨Z, hZ⟩ : ∃ Z : ByteArray, Z = ⟨(orL S T).toArray⟩ := ⟨_, rfl⟩
  rw [show mkB (orL S T) = Z from hZ.symm]
  have HZ := hid hZ
  clear h k hST hS hT hZ
  go_enter Tryz.func44, Tryz.ntmps44
  go_wp2_with fail
  refine (HCS.out _).mono ?_
  rintro e w1 ⟨rfl, rfl⟩
  go_wp2_with fail
  refine (HCT.out _).mono ?_
  rintro e w1 ⟨rfl, rfl⟩
  go_wp2_with fail
  refine (HTS.out _).mono ?_
  rintro e w1 ⟨v1, rfl, o1, n1⟩
  obtain ⟨gx, cx, cs, rfl, hx1, hx2, hx3, hx4, hx5⟩ := OwnC.blk o1 h0
  have N1 := hid n1
  have HBX := hid hx4; have HCX := hid hx5
  have hgx : gx < w1.heap.size := hx4.lt
  unfold maxLen at hx2
  clear o1 n1 hx4 hx5
  go_wp2_with fail
  refine (HTT.out _).mono ?_
  rintro e w2 ⟨v2, rfl, o2, n2⟩
  obtain ⟨gy, cy, ds, rfl, hy1, hy2, hy3, hy4, hy5⟩ := OwnC.blk o2 h0
  have N2 := hid (N1.out.trans n2)
  have HBX2 := hid (New.blk n2 HBX.out)
  have HBY := hid hy4; have HCY := hid hy5
  have HGG := hid (show gy ≠ gx by omega)
  unfold maxLen at hy2
  clear o2 n2 hy4 hy5
  go_wp2
  go_loopw [35] (fun i wr => ∃ (k : Nat) (cs : Array Value), i = .int .i64 k ∧ k ≤ n ∧ Blk wr gx cs 4 ∧ (∀ j, j < n → cs[j]? = some (.bool (if j < k then bitL (orL S T) j else bitL S j))) ∧ Mod (fun j => j = gx) w2 wr) (fun i _ => n - (intOf i).toNat)
  case atStart => exact ⟨0, cs, rfl, by omega, HBX2.out, fun j hj => by rw [if_neg (by omega)]; exact HCX.out j hj, Mod.refl _ _⟩
  case round =>
    obtain ⟨k, cs, rfl, hk, hb, hc, hm⟩ := hrel
    have HB := hid hb; have HC := hid hc; have HM := hid hm
    by_cases hlt : k < n
    · have hltI : (k : Int) < (n : Int) := by omega
      have x0 := hb.cellv k (by have := hc k hlt; rw [if_neg (by omega)] at this; exact this)
      have xl := hb.lt; have xf := hb.frz k
      have y0 := Mod.cellv hm (HBY.out.cellv k (HCY.out k hlt)) HGG.out
      have hob := HOB.out k
      have HNC := hid (fun (b : Bool) (e : bitL (orL S T) k = b) (j : Nat) (hj : j < n) => show (cs.setIfInBounds k (.bool b))[j]? = some (.bool (if j < k + 1 then bitL (orL S T) j else bitL S j)) by
        rw [Array.getElem?_setIfInBounds]
        by_cases e2 : k = j
        · subst e2
          have hsz : k < cs.size := by
            have := hc k hlt
            exact (Array.getElem?_eq_some_iff.1 this).1
          rw [if_pos rfl, if_pos hsz, if_pos (by omega), e]
        · rw [if_neg e2, hc j hj]
          by_cases e3 : j < k
          · rw [if_pos e3, if_pos (by omega)]
          · rw [if_neg e3, if_neg (by omega)])
      cases hbs : bitL S k with
      | true =>
        rw [hbs] at x0 hob
        have HOBK := hid (show bitL (orL S T) k = true by rw [hob]; rfl)
        clear hb hc hm hob hbs y0
        go_wp2
        exact ⟨⟨k + 1, _, by simp, by omega, HB.out.set k (.bool true), HNC.out true HOBK.out, HM.out.set _ _ (.inl rfl)⟩, by simp [intOf]; omega⟩
      | false =>
        rw [hbs] at x0 hob
        have HOBK := hid (show bitL (orL S T) k = bitL T k by rw [hob]; rfl)
        obtain ⟨bt, hbt⟩ : ∃ bt, bt = bitL T k := ⟨_, rfl⟩
        rw [← hbt] at y0 HOBK
        clear hb hc hm hob hbs hbt
        go_wp2
        exact ⟨⟨k + 1, _, by simp, by omega, HB.out.set k (.bool bt), HNC.out bt HOBK.out, HM.out.set _ _ (.inl rfl)⟩, by simp [intOf]; omega⟩
    · have hkk : k = n := by omega
      have HFI := hid (rFieldC_any n gx cx (orL S T) wr HFO.out hn hx1 (by unfold maxLen; omega) (fun j hj => hb.cellv j (by have := hc j hj; rw [if_pos (by omega)] at this; exact this)) hb.lt)
      have N3 := hid (N2.out.trans' hm (fun j h1 h2 => by omega))
      rw [← HZ.out] at HFI
      clear hb hc hm hkk
      go_wp2_with fail
      refine HFI.out.mono ?_
      rintro e w4 ⟨rfl, n4⟩
      have N4 := hid (N3.out.trans n4)
      clear n4
      go_wp2
      go_ret2
      exact ⟨rfl, N4.out⟩
end Go.Proofs.YtbgmkplpolgebaaGreatDoor
