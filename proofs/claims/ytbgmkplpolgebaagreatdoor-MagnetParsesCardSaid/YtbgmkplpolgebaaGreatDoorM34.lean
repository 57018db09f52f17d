/-
  Several texts in one, in their build order. The reference's Parse of a text of runs. Conditions: at most 4096 bits; the text is small.
-/
import Derived.Test.YtbgmkplpolgebaaGreatDoorM28
namespace Go.Proofs.YtbgmkplpolgebaaGreatDoor
set_option linter.unusedSimpArgs false
set_option linter.unusedVariables false
open Go.RowKit Go.Shelf

theorem bitsP_nil (n : Nat) : bitsP n [] = some (zerosL n) := by
  refine bitsP_yes (R := []) rfl rfl ?_
  have : runsF n (zerosL n) = [] := by
    unfold runsF
    have : numsL n (zerosL n) = [] := by
      unfold numsL
      rw [List.filter_eq_nil_iff]
      intro j _
      unfold zerosL
      rw [bitL_zero]
      decide
    rw [this]
    rfl
  rw [this]
  rfl
theorem digP_low (most : Nat) (s : List UInt8) : -1 ≤ digP most s ∧ digP most s ≤ most := by
  unfold digP
  split
  · split <;> omega
  · omega
theorem partR_no {p : List UInt8} (h : 2 < (pieces [] 45 p).length) : partP p = none := by rw [← partR_eq]; unfold partR; rw [if_pos h]
theorem partR_go {p : List UInt8} {x y : Int} (h : ¬ 2 < (pieces [] 45 p).length) (hx : digP 4096 ((pieces [] 45 p).headD []) = x) (hy : digP 4096 ((pieces [] 45 p).getLastD []) = y) : partP p = if x < 0 ∨ y < 0 ∨ y < x then none else some (x, y - x + 1) := by
  rw [← partR_eq]
  unfold partR
  rw [if_neg h, hx, hy]
set_option maxRecDepth 100000 in
set_option maxHeartbeats 8000000 in
theorem rParse_any (n : Nat) (t : ByteArray) (w : World) (hn : n ≤ 4096) (hs : t.size ≤ 65536) :
    Calls Tryz.prog 139 #[.int .i64 n, .string t] w fun e w' => e = bpE (bitsP n t.data.toList) ∧ New w w' := by
  have HNW := hid (fun W => rNew_any n W hn)
  have HR := hid (fun W => rright_any n W hn)
  have hlen : t.data.toList.length = t.size := by rw [Array.length_toList]; rfl
  have hI : ¬ (65536 : Int) < (t.size : Int) := by omega
  have HSP := hid (fun W => rCutS_any t 44 W (by omega))
  obtain ⟨X, hX⟩ : ∃ X, X = bitsP n t.data.toList := ⟨_, rfl⟩
  rw [← hX]
  have HXX := hid hX
  clear hX
  obtain ⟨i0, hi, hz0, hz1, hz2⟩ := info_parts info_runB
  by_cases h0 : t.size = 0
  · have hnil : t.data.toList = [] := List.eq_nil_of_length_eq_zero (by omega)
    have HX : Hid (X = some (zerosL n)) := hid (by rw [HXX.out, hnil, bitsP_nil])
    have hte : (t.toList == []) = true := by
      rw [beq_iff_eq]
      rw [ByteArray.toList_eq]
      exact hnil
    have htI : t.toList.isEmpty = true := by
      rw [ByteArray.toList_eq, hnil]
      rfl
    clear h0 hnil hlen
    go_enter Tryz.func139, Tryz.ntmps139
    go_wp2_with (first | (go_at_call 105; refine (HR.out _).mono ?_; rintro e w1 ⟨rfl, rfl⟩) | fail)
    refine (HNW.out _).mono ?_
    rintro e w1 ⟨rfl, n1⟩
    have N1 := hid n1
    clear n1
    go_wp2
    go_ret2
    exact ⟨by rw [HX.out]; rfl, N1.out⟩
  · have hne : t.data.toList ≠ [] := fun q => h0 (by rw [← hlen, q]; rfl)
    have HPS := hid (show partsS t.data.toList = pieces [] 44 t.data.toList by unfold partsS; rw [if_neg hne])
    have hPL := pieces_len [] 44 t.data.toList
    have hcl := List.count_le_length (l := t.data.toList) (a := 44)
    obtain ⟨P, hP⟩ : ∃ P, P = pieces [] 44 t.data.toList := ⟨_, rfl⟩
    have HSZ : Hid (∀ k (h : k < P.length), (mkB P[k]).size ≤ 65537) := hid (fun k h => by
      subst hP
      have h1 := piece_le [] (by simp) 44 t.data.toList _ (List.getElem_mem h)
      have h2 : (mkB (pieces [] 44 t.data.toList)[k]).size = ((pieces [] 44 t.data.toList)[k]).length := size_list _
      omega)
    rw [← hP] at HPS HSP hPL
    have hmap : (P.map mkB).length = P.length := List.length_map _
    rw [hmap] at HSP
    have hPle : P.length ≤ 65537 := by omega
    have hte : (t.toList == []) = false := by
      rw [beq_eq_false_iff_ne]
      rw [ByteArray.toList_eq]
      exact hne
    have htI : t.toList.isEmpty = false := by
      rw [ByteArray.toList_eq]
      cases hq : t.data.toList with
      | nil => exact absurd hq hne
      | cons x r => rfl
    clear hP hPL hcl hne h0 hlen
    go_enter Tryz.func139, Tryz.ntmps139
    go_wp2_with (first | (go_at_call 105; refine (HR.out _).mono ?_; rintro e w1 ⟨rfl, rfl⟩) | fail)
    refine (HSP.out _).mono ?_
    rintro e w2 ⟨pa, pd, rfl, hst, -, n2⟩
    have HST := hid hst
    have HN0 := hid n2
    have hpr := hst.room; have hpc := hst.cap
    rw [hmap] at hpr
    unfold maxLen at hpc
    clear n2 hst
    go_wp2_with fail
    go_loopw [34, 6] (fun i o wr => ∃ (k : Nat) (v : Value) (RA : List (Int × Int)), i = .int .i64 k ∧ v = o ∧ k ≤ P.length ∧ partsP (P.take k) = some RA ∧ RA.length = k ∧ OwnR wr w2.heap.size v RA ∧ New w2 wr) (fun i _ _ => P.length - (intOf i).toNat)
    case atStart => exact ⟨0, _, [], rfl, rfl, by omega, by rw [List.take_zero]; rfl, rfl, OwnR.nil _ _, Mod.refl _ _⟩
    case round =>
      obtain ⟨k, v, RA, rfl, rfl, hk, hpp, hRk, hO, hN⟩ := hrel
      have HO := hid hO; have HN2 := hid hN; have HPP := hid hpp
      have HN := hid (HN0.out.trans hN)
      by_cases hlt : k < P.length
      · have hltI : (k : Int) < (P.length : Int) := by omega
        have hst := HST.out.new hN
        obtain ⟨bb, oo, hbe, hbb, hcc⟩ := hst.get (by rw [hmap]; omega)
        subst hbe
        have g0 := hcc k (by rw [hmap]; exact hlt)
        rw [show (P.map mkB)[k]'(by rw [hmap]; exact hlt) = mkB P[k] from List.getElem_map _] at g0
        have hxs := HSZ.out k hlt
        have HALL := hid (lst_all hlt)
        have HTK := hid (lst_next hlt)
        obtain ⟨x, hx⟩ : ∃ x, x = P[k] := ⟨_, rfl⟩
        rw [← hx] at g0 hxs HALL HTK
        have HCU := hid (fun W => rCutS_any (mkB x) 45 W (by omega))
        rw [show (mkB x).data.toList = x from rfl] at HCU
        have hxl : (mkB x).size = x.length := size_list x
        have hEl := pieces_ne [] 45 x
        have HES := hid (fun y (q : y ∈ pieces [] 45 x) => piece_le [] (by simp) 45 x y q)
        have HRG := hid (fun (a b : Int) q r s => partR_go (p := x) (x := a) (y := b) q r s)
        have HRNO := hid (fun q => partR_no (p := x) q)
        obtain ⟨E, hE⟩ : ∃ E, E = pieces [] 45 x := ⟨_, rfl⟩
        rw [← hE] at HCU hEl HES HRG HRNO
        have hem : (E.map mkB).length = E.length := List.length_map _
        rw [hem] at HCU
        have hE0 : 0 < E.length := List.length_pos_iff.2 hEl
        clear hst hcc hx hO hN hpp hE hEl
        go_wp2_with fail
        refine (HCU.out _).mono ?_
        rintro e w4 ⟨ea, ed, rfl, hst4, -, n4⟩
        have N4 := hid (HN.out.trans n4)
        have NN4 := hid n4
        have O4 := hid (HO.out.new n4)
        obtain ⟨eb, eo, hbe4, hbb4, hcc4⟩ := hst4.get (by rw [hem]; omega)
        subst hbe4
        have er := hst4.room; have ec := hst4.cap
        rw [hem] at er
        unfold maxLen at ec
        clear n4
        by_cases h2 : 2 < E.length
        · have h2I : (2 : Int) < (E.length : Int) := by omega
          have HX : Hid (X = none) := hid (by rw [HXX.out]; exact bitsP_no1 (by rw [HPS.out, HALL.out]; exact partsP_bad HPP.out (HRNO.out h2)))
          have N5 := N4
          clear hst4 hcc4
          go_wp2
          go_ret2
          exact ⟨by rw [HX.out]; rfl, N5.out⟩
        · have h2I : ¬ (2 : Int) < (E.length : Int) := by omega
          have q0 := hcc4 0 (by rw [hem]; omega)
          have q1 := hcc4 (E.length - 1) (by rw [hem]; omega)
          rw [show (E.map mkB)[0]'(by rw [hem]; omega) = mkB E[0] from List.getElem_map _, Nat.add_zero] at q0
          rw [show (E.map mkB)[E.length - 1]'(by rw [hem]; omega) = mkB (E[E.length - 1]'(by omega)) from List.getElem_map _] at q1
          have hA : E.headD [] = E[0] := by cases E with | nil => simp at hE0 | cons a r => rfl
          have hB : E.getLastD [] = E[E.length - 1]'(by omega) := by
            rw [List.getLastD_eq_getLast?, List.getLast?_eq_getElem?, List.getElem?_eq_getElem (by omega)]
            rfl
          have hAs := HES.out E[0] (List.getElem_mem _)
          have hBs := HES.out (E[E.length - 1]'(by omega)) (List.getElem_mem _)
          have HRG2 := hid (fun (a b : Int) q r => HRG.out a b h2 q r)
          rw [hA, hB] at HRG2
          obtain ⟨A, hAA⟩ : ∃ A, A = E[0] := ⟨_, rfl⟩
          obtain ⟨B, hBB⟩ : ∃ B, B = E[E.length - 1]'(by omega) := ⟨_, rfl⟩
          rw [← hAA] at q0 HRG2 hAs
          rw [← hBB] at q1 HRG2 hBs
          have HDA := hid (fun W => rDig_any 4096 (mkB A) W (by rw [show (mkB A).size = A.length from size_list A]; omega) (by omega) (by omega))
          have HDB := hid (fun W => rDig_any 4096 (mkB B) W (by rw [show (mkB B).size = B.length from size_list B]; omega) (by omega) (by omega))
          rw [show (mkB A).data.toList = A from rfl] at HDA
          rw [show (mkB B).data.toList = B from rfl] at HDB
          obtain ⟨hal, hah⟩ := digP_low 4096 A
          obtain ⟨hbl, hbh⟩ := digP_low 4096 B
          obtain ⟨xa, hxa⟩ : ∃ x, x = digP 4096 A := ⟨_, rfl⟩
          obtain ⟨xb, hxb⟩ : ∃ x, x = digP 4096 B := ⟨_, rfl⟩
          have HPX := hid (HRG2.out xa xb hxa.symm hxb.symm)
          rw [← hxa] at HDA hal hah
          rw [← hxb] at HDB hbl hbh
          have hm1 : ((E.length : Int) - 1).toNat = E.length - 1 := by omega
          have hm2 : (0 : Int) ≤ (E.length : Int) - 1 := by omega
          have hm3 : (E.length : Int) - 1 < (E.length : Int) := by omega
          have HQ1 := hid q1
          clear hst4 hcc4 hA hB hAs hBs hAA hBB hxa hxb HRG HRNO HES hE0
          go_wp2_with fail
          refine (HDA.out _).mono ?_
          rintro e w5 ⟨rfl, n5⟩
          have q1 := New.cellv n5 HQ1.out
          have N5a := hid (N4.out.trans n5)
          have NN5 := hid (NN4.out.trans n5)
          have O5 := hid (O4.out.new n5)
          clear n5 q0
          go_wp2_with fail
          refine (HDB.out _).mono ?_
          rintro e w6 ⟨rfl, n6⟩
          have N5 := hid (N5a.out.trans n6)
          have NN6 := hid (NN5.out.trans n6)
          have O6 := hid (O5.out.new n6)
          clear n6 q1
          by_cases h3 : xa < 0
          · have HX : Hid (X = none) := hid (by rw [HXX.out]; exact bitsP_no1 (by rw [HPS.out, HALL.out]; exact partsP_bad HPP.out (HPX.out.trans (if_pos (.inl h3)))))
            have e3 : decide (xa < 0) = true := decide_eq_true h3
            go_wp2
            go_ret2
            exact ⟨by rw [HX.out]; rfl, N5.out⟩
          have e3 : decide (xa < 0) = false := decide_eq_false h3
          by_cases h4 : xb < 0
          · have HX : Hid (X = none) := hid (by rw [HXX.out]; exact bitsP_no1 (by rw [HPS.out, HALL.out]; exact partsP_bad HPP.out (HPX.out.trans (if_pos (.inr (.inl h4))))))
            have e4 : decide (xb < 0) = true := decide_eq_true h4
            go_wp2
            go_ret2
            exact ⟨by rw [HX.out]; rfl, N5.out⟩
          have e4 : decide (xb < 0) = false := decide_eq_false h4
          by_cases h5 : xb < xa
          · have HX : Hid (X = none) := hid (by rw [HXX.out]; exact bitsP_no1 (by rw [HPS.out, HALL.out]; exact partsP_bad HPP.out (HPX.out.trans (if_pos (.inr (.inr h5))))))
            have e5 : decide (xb < xa) = true := decide_eq_true h5
            go_wp2
            go_ret2
            exact ⟨by rw [HX.out]; rfl, N5.out⟩
          have e5 : decide (xb < xa) = false := decide_eq_false h5
          have HNX := hid (partsP_next HPP.out (HPX.out.trans (if_neg (by omega))))
          rw [← HTK.out] at HNX
          have hw1 : IntKind.i64.wrap (xb - xa) = xb - xa := by rw [IntKind.wrap_i64]; omega
          have hw2 : IntKind.i64.wrap (xb - xa + 1) = xb - xa + 1 := by rw [IntKind.wrap_i64]; omega
          go_wp2_with (first | (at_builtin; refine wpList_append_own_at _ rfl _ _ 25 rfl w2.heap.size 66 i0 _ 2 16 Tryz.underlying25 hi hz0 hz1 hz2 rfl (by decide) v RA.length (runRow RA) rfl ?ow ⟨w6.heap.size, 0, none⟩ 1 1 [.int .i64 xa, .int .i64 (xb - xa + 1)] rfl rfl ?hn ?h1 ?h63 ?hby ?hba ?_) | fail)
          case ow => exact O6.out.new ((Mod.refl _ _).alloc _)
          case hn => exact fun j u hj => two_new w6 _ _ _ rfl j u hj
          case h1 => intro u hu; simp at hu; rcases hu with rfl | rfl <;> rfl
          case h63 => unfold maxLen; omega
          case hby => omega
          case hba => have h1 := HN2.out.size; have h2 := NN6.out.size; simp; omega
          intro o7 w7 r7 g7 _ _
          have O7 : Hid (OwnR w7 w2.heap.size o7 (RA ++ [(xa, xb - xa + 1)])) := hid (by
            unfold OwnR
            rw [List.length_append, runRow_app, hRk]
            exact r7)
          have N7 : Hid (New w2 w7) := hid (newGrown ((HN2.out.trans NN6.out).alloc _) g7 (fun j hj => by
            obtain ⟨-, -, -, hb⟩ := O6.out.form
            exact hb j hj))
          clear r7 g7
          go_wp2
          exact ⟨⟨k + 1, _, RA ++ [(xa, xb - xa + 1)], by simp, rfl, by omega, HNX.out, by simp; omega, O7.out, N7.out⟩, by simp [intOf]; omega⟩
      · have hkk : k = P.length := by omega
        have HPA := hid (show partsP (partsS t.data.toList) = some RA by rw [HPS.out, ← HPP.out, hkk, List.take_length])
        clear hO hN hpp
        subst hkk
        go_wp2_with fail
        have HRA := hid HO.out.runs
        have HFR := hid (fun W (q : New wr W) => rFrom_any n RA v W (HRA.out.new q) hn)
        cases hfr : frR n RA with
        | error ke =>
          rw [hfr] at HFR
          simp only [frE] at HFR
          have HX : Hid (X = none) := hid (by rw [HXX.out]; exact bitsP_no2 HPA.out hfr)
          have hke : (ke != 0) = true := by rcases frR_err hfr with rfl | rfl <;> rfl
          clear hfr
          refine (HFR.out _ (Mod.refl _ _)).mono ?_
          rintro e w3 ⟨rfl, n3⟩
          have N3 := hid (HN.out.trans n3)
          clear n3
          go_wp2
          go_ret2
          exact ⟨by rw [HX.out]; rfl, N3.out⟩
        | ok f =>
          rw [hfr] at HFR
          simp only [frE] at HFR
          have hff := frR_field hfr
          have HTX := hid (fun W => rText_any n (mkB f) W hff hn)
          rw [show (mkB f).data.toList = f from rfl] at HTX
          by_cases ht : txtR (runsF n f) = t.data.toList
          · have HX : Hid (X = some f) := hid (by rw [HXX.out]; exact bitsP_yes HPA.out hfr ht)
            have hq2 : ((mkB (txtR (runsF n f))).toList == t.toList) = true := by rw [toL_eqB]; exact decide_eq_true ht
            have hq : ((mkB (txtR (runsF n f))).toList != t.toList) = false := by rw [bne, hq2]; rfl
            clear hfr hff ht
            refine (HFR.out _ (Mod.refl _ _)).mono ?_
            rintro e w3 ⟨rfl, n3⟩
            have N3 := hid (HN.out.trans n3)
            clear n3
            go_wp2_with fail
            refine (HTX.out _).mono ?_
            rintro e w4 ⟨rfl, n4⟩
            have N4 := hid (N3.out.trans n4)
            clear n4
            go_wp2
            go_ret2
            exact ⟨by rw [HX.out]; rfl, N4.out⟩
          · have HX : Hid (X = none) := hid (by rw [HXX.out]; exact bitsP_no3 HPA.out hfr ht)
            have hq2 : ((mkB (txtR (runsF n f))).toList == t.toList) = false := by rw [toL_eqB]; exact decide_eq_false ht
            have hq : ((mkB (txtR (runsF n f))).toList != t.toList) = true := by rw [bne, hq2]; rfl
            clear hfr hff ht
            refine (HFR.out _ (Mod.refl _ _)).mono ?_
            rintro e w3 ⟨rfl, n3⟩
            have N3 := hid (HN.out.trans n3)
            clear n3
            go_wp2_with fail
            refine (HTX.out _).mono ?_
            rintro e w4 ⟨rfl, n4⟩
            have N4 := hid (N3.out.trans n4)
            clear n4
            go_wp2
            go_ret2
            exact ⟨by rw [HX.out]; rfl, N4.out⟩
end Go.Proofs.YtbgmkplpolgebaaGreatDoor
