/-
  Several texts in one, in their build order. The walk of Parse (package bits). Conditions: at most 4096 bits; the text is small; the library's variables are as laid.
-/
import Derived.Test.YtbgmkplpolgebaaGreatDoorM26
namespace Go.Proofs.YtbgmkplpolgebaaGreatDoor
set_option linter.unusedSimpArgs false
set_option linter.unusedVariables false
open Go.RowKit Go.Shelf

theorem runP_num (a b : List UInt8) : runP a b = match numP a, numP b with
    | some f, some t => if t < f ∨ 4096 < t then none else some (f, t - f + 1)
    | _, _ => none := by
  rw [numP_eq, numP_eq]
  unfold runP
  cases natP a with
  | none => rfl
  | some f =>
    cases natP b with
    | none =>
      simp only
      by_cases h1 : f ≤ 9223372036854775807
      · rw [if_pos h1]
      · rw [if_neg h1]
    | some t =>
      simp only
      by_cases h1 : f ≤ 9223372036854775807
      · rw [if_pos h1]
        by_cases h2 : t ≤ 9223372036854775807
        · rw [if_pos h2]
          simp only
          by_cases h3 : t < f ∨ 4096 < t
          · rw [if_pos h3, if_pos (by omega)]
          · rw [if_neg h3, if_neg (by omega)]
        · rw [if_neg h2, if_pos (by omega)]
      · rw [if_neg h1, if_pos (by omega)]
theorem runP_no1 {a b : List UInt8} (h : numP a = none) : runP a b = none := by rw [runP_num, h]
theorem runP_no2 {a b : List UInt8} (h : numP b = none) : runP a b = none := by rw [runP_num, h]; cases numP a <;> rfl
theorem runP_no3 {a b : List UInt8} {f t : Int} (h1 : numP a = some f) (h2 : numP b = some t) (h : t < f ∨ 4096 < t) : runP a b = none := by rw [runP_num, h1, h2]; simp only; rw [if_pos h]
theorem runP_yes {a b : List UInt8} {f t : Int} (h1 : numP a = some f) (h2 : numP b = some t) (h : ¬ (t < f ∨ 4096 < t)) : runP a b = some (f, t - f + 1) := by rw [runP_num, h1, h2]; simp only; rw [if_neg h]
theorem numP_pos {s : List UInt8} {f : Int} (h : numP s = some f) : 0 ≤ f := by
  rw [numP_eq] at h
  split at h
  · split at h
    · injection h with h; omega
    · cases h
  · cases h
theorem frS_err {n : Nat} : ∀ {U : List (Int × Int)} {st : Int × List UInt8} {k : Int}, frS n U st = .error k → k = 7 ∨ k = 6
  | [], st, k, h => by cases h
  | r :: U, st, k, h => by
    simp only [frS] at h
    unfold frStep at h
    by_cases h1 : runBad n r = true
    · rw [if_pos h1] at h
      injection h with h
      exact .inl h.symm
    · rw [if_neg h1] at h
      by_cases h2 : r.1 < st.1
      · rw [if_pos h2] at h
        injection h with h
        exact .inr h.symm
      · rw [if_neg h2] at h
        exact frS_err h
theorem frR_err {n : Nat} {U : List (Int × Int)} {k : Int} (h : frR n U = .error k) : k = 7 ∨ k = 6 := by
  unfold frR at h
  split at h
  · next e he =>
    injection h with h
    subst h
    exact frS_err he
  · cases h
def partsS (s : List UInt8) : List (List UInt8) := if s = [] then [] else pieces [] 44 s
theorem bitsP_no1 {n : Nat} {s : List UInt8} (h : partsP (partsS s) = none) : bitsP n s = none := by unfold bitsP; unfold partsS at h; rw [h]
theorem bitsP_no2 {n : Nat} {s : List UInt8} {R : List (Int × Int)} {k : Int} (h : partsP (partsS s) = some R) (h2 : frR n R = .error k) : bitsP n s = none := by unfold bitsP; unfold partsS at h; rw [h]; simp only; rw [h2]
theorem bitsP_no3 {n : Nat} {s f : List UInt8} {R : List (Int × Int)} (h : partsP (partsS s) = some R) (h2 : frR n R = .ok f) (h3 : txtR (runsF n f) ≠ s) : bitsP n s = none := by unfold bitsP; unfold partsS at h; rw [h]; simp only; rw [h2]; simp only; rw [if_neg h3]
theorem bitsP_yes {n : Nat} {s f : List UInt8} {R : List (Int × Int)} (h : partsP (partsS s) = some R) (h2 : frR n R = .ok f) (h3 : txtR (runsF n f) = s) : bitsP n s = some f := by unfold bitsP; unfold partsS at h; rw [h]; simp only; rw [h2]; simp only; rw [if_pos h3]
def bpE : Option (List UInt8) → Ending
  | some f => .returned (.tuple #[.string (mkB f), .int .i64 0])
  | none => .returned (.tuple #[.string ⟨#[]⟩, .int .i64 2])
theorem cutB_le (c : UInt8) : ∀ (s : List UInt8), (cutB c s).1.length ≤ s.length ∧ (cutB c s).2.1.length ≤ s.length
  | [] => by simp [cutB]
  | b :: l => by
    obtain ⟨h1, h2⟩ := cutB_le c l
    rw [cutB]
    split
    · simp
    · simp only [List.length_cons]
      omega
set_option maxRecDepth 100000 in
set_option maxHeartbeats 8000000 in
theorem bParse_any (n : Nat) (t : ByteArray) (w : World) (hn : n ≤ 4096) (hs : t.size ≤ 65536) (hv : VarP w) :
    Calls Tryz.prog 83 #[.int .i64 n, .string t] w fun e w' => e = bpE (bitsP n t.data.toList) ∧ New w w' := by
  have HNW := hid (fun W => bNew_any n W hn)
  have HV := hid (fun W (n : New w W) => hv.new n)
  have hlen : t.data.toList.length = t.size := by rw [Array.length_toList]; rfl
  have hI : ¬ (65536 : Int) < (t.size : Int) := by omega
  have HSP := hid (fun W (n : New w W) => split_c 44 t W (hv.new n) (by omega))
  obtain ⟨X, hX⟩ : ∃ X, X = bitsP n t.data.toList := ⟨_, rfl⟩
  rw [← hX]
  have HXX := hid hX
  clear hX hv
  obtain ⟨i0, hi, hz0, hz1, hz2⟩ := info_parts info_runB
  by_cases h0 : t.size = 0
  · have hnil : t.data.toList = [] := List.eq_nil_of_length_eq_zero (by omega)
    have HPS : Hid (partsP (partsS t.data.toList) = some []) := hid (by rw [hnil]; rfl)
    have hte : (t.toList == []) = true := by
      rw [beq_iff_eq]
      rw [ByteArray.toList_eq]
      exact hnil
    have htI : t.toList.isEmpty = true := by
      rw [ByteArray.toList_eq, hnil]
      rfl
    have HNIL := hid hnil
    clear h0 hnil hlen
    go_enter Tryz.func83, Tryz.ntmps83
    go_wp2_with fail
    refine (HNW.out _).mono ?_
    rintro e w1 ⟨⟨s0, rfl⟩, n1⟩
    have N1 := hid n1
    clear n1
    go_wp2_with fail
    refine (HSP.out _ N1.out).mono ?_
    rintro e w2 ⟨rfl, hst, n2⟩
    have HN0 := hid (N1.out.trans n2)
    have hp1 : (pieces [] 44 t.data.toList).map mkB = [mkB []] := by rw [HNIL.out]; rfl
    rw [hp1] at hst ⊢
    obtain ⟨bb, oo, hbe, hbb, hcc⟩ := hst.get (by decide)
    injection hbe with hbe
    injection hbe with hb1 hb2
    subst hb1 hb2
    have g00 := hcc 0 (by decide)
    have HG := hid g00
    simp only [List.length_singleton]
    clear n2 hst hcc g00 hp1
    go_wp2_with fail
    go_loopw [36, 8] (fun i o wr => ∃ (v : Value) (RA : List (Int × Int)), i = .int .i64 0 ∧ v = o ∧ RA = [] ∧ OwnR wr w2.heap.size v RA ∧ New w2 wr) (fun i _ _ => 0)
    case atStart => exact ⟨_, [], rfl, rfl, rfl, OwnR.nil _ _, Mod.refl _ _⟩
    case round =>
      obtain ⟨v, RA, rfl, rfl, hRA, hO, hN⟩ := hrel
      have HO := hid hO
      have g0 := New.cellv hN HG.out
      have HN := hid (HN0.out.trans hN)
      have HPA := hid (show partsP (partsS t.data.toList) = some RA by rw [hRA]; exact HPS.out)
      clear hO hN hRA
      go_wp2_with fail
      clear hte htI
      have HRA := hid HO.out.runs
      have HFR := hid (fun W (q : New wr W) => bFrom_any n RA v W (HRA.out.new q) hn)
      cases hfr : frR n RA with
      | error ke =>
        rw [hfr] at HFR
        simp only [frE] at HFR
        have HX : Hid (X = none) := hid (by rw [HXX.out]; exact bitsP_no2 HPA.out hfr)
        have hke : (ke != 0) = true := by rcases frR_err hfr with rfl | rfl <;> rfl
        clear hfr
        refine (HFR.out _ (Mod.refl _ _)).mono ?_
        rintro e w3 ⟨rfl, n3⟩
        have N3 := hid (HN.out.trans n3)
        clear n3
        go_wp2
        go_ret2
        exact ⟨by rw [HX.out]; rfl, N3.out⟩
      | ok f =>
        rw [hfr] at HFR
        simp only [frE] at HFR
        have hff := frR_field hfr
        have HTX := hid (fun W (q : New w W) => bText_any n (mkB f) W hff hn (HV.out W q))
        rw [show (mkB f).data.toList = f from rfl] at HTX
        by_cases ht : txtR (runsF n f) = (t).data.toList
        · have HX : Hid (X = some f) := hid (by rw [HXX.out]; exact bitsP_yes HPA.out hfr ht)
          have hq : ((mkB (txtR (runsF n f))).toList != (t).toList) = false := by
            rw [bne, toL_eqB, show (mkB (txtR (runsF n f))).data.toList = txtR (runsF n f) from rfl, decide_eq_true ht]
            rfl
          have hq2 : ((mkB (txtR (runsF n f))).toList == (t).toList) = true := by rw [toL_eqB]; exact decide_eq_true ht
          clear hfr hff ht
          refine (HFR.out _ (Mod.refl _ _)).mono ?_
          rintro e w3 ⟨rfl, n3⟩
          have N3 := hid (HN.out.trans n3)
          clear n3
          go_wp2_with fail
          refine (HTX.out _ N3.out).mono ?_
          rintro e w4 ⟨rfl, n4⟩
          have N4 := hid (N3.out.trans n4)
          clear n4
          go_wp2
          go_ret2
          exact ⟨by rw [HX.out]; rfl, N4.out⟩
        · have HX : Hid (X = none) := hid (by rw [HXX.out]; exact bitsP_no3 HPA.out hfr ht)
          have hq : ((mkB (txtR (runsF n f))).toList != (t).toList) = true := by
            rw [bne, toL_eqB, show (mkB (txtR (runsF n f))).data.toList = txtR (runsF n f) from rfl, decide_eq_false ht]
            rfl
          have hq2 : ((mkB (txtR (runsF n f))).toList == (t).toList) = false := by rw [toL_eqB]; exact decide_eq_false ht
          clear hfr hff ht
          refine (HFR.out _ (Mod.refl _ _)).mono ?_
          rintro e w3 ⟨rfl, n3⟩
          have N3 := hid (HN.out.trans n3)
          clear n3
          go_wp2_with fail
          refine (HTX.out _ N3.out).mono ?_
          rintro e w4 ⟨rfl, n4⟩
          have N4 := hid (N3.out.trans n4)
          clear n4
          go_wp2
          go_ret2
          exact ⟨by rw [HX.out]; rfl, N4.out⟩
  · have hne : t.data.toList ≠ [] := fun q => h0 (by rw [← hlen, q]; rfl)
    have HPS := hid (show partsS t.data.toList = pieces [] 44 t.data.toList by unfold partsS; rw [if_neg hne])
    have hPL := pieces_len [] 44 t.data.toList
    have hcl := List.count_le_length (l := t.data.toList) (a := 44)
    obtain ⟨P, hP⟩ : ∃ P, P = pieces [] 44 t.data.toList := ⟨_, rfl⟩
    have HSZ : Hid (∀ k (h : k < P.length), (mkB P[k]).size ≤ 65537) := hid (fun k h => by
      subst hP
      have h1 := piece_le [] (by simp) 44 t.data.toList _ (List.getElem_mem h)
      have h2 : (mkB (pieces [] 44 t.data.toList)[k]).size = ((pieces [] 44 t.data.toList)[k]).length := size_list _
      omega)
    rw [← hP] at HPS HSP hPL
    have hmap : (P.map mkB).length = P.length := List.length_map _
    have hPle : P.length ≤ 65537 := by omega
    have hte : (t.toList == []) = false := by
      rw [beq_eq_false_iff_ne]
      rw [ByteArray.toList_eq]
      exact hne
    have htI : t.toList.isEmpty = false := by
      rw [ByteArray.toList_eq]
      cases hq : t.data.toList with
      | nil => exact absurd hq hne
      | cons x r => rfl
    clear hP hPL hcl hne h0 hlen
    go_enter Tryz.func83, Tryz.ntmps83
    go_wp2_with fail
    refine (HNW.out _).mono ?_
    rintro e w1 ⟨⟨s0, rfl⟩, n1⟩
    have N1 := hid n1
    clear n1
    go_wp2_with fail
    refine (HSP.out _ N1.out).mono ?_
    rintro e w2 ⟨rfl, hst, n2⟩
    have HST := hid hst
    have HN0 := hid (N1.out.trans n2)
    clear n2 hst
    rw [hmap]
    go_wp2_with fail
    go_loopw [36, 8] (fun i o wr => ∃ (k : Nat) (v : Value) (RA : List (Int × Int)), i = .int .i64 k ∧ v = o ∧ k ≤ P.length ∧ partsP (P.take k) = some RA ∧ RA.length = k ∧ OwnR wr w2.heap.size v RA ∧ New w2 wr) (fun i _ _ => P.length - (intOf i).toNat)
    case atStart => exact ⟨0, _, [], rfl, rfl, by omega, by rw [List.take_zero]; rfl, rfl, OwnR.nil _ _, Mod.refl _ _⟩
    case round =>
      obtain ⟨k, v, RA, rfl, rfl, hk, hpp, hRk, hO, hN⟩ := hrel
      have HO := hid hO; have HN2 := hid hN; have HPP := hid hpp
      have HN := hid (HN0.out.trans hN)
      by_cases hlt : k < P.length
      · have hltI : (k : Int) < (P.length : Int) := by omega
        have hst := HST.out.new hN
        obtain ⟨bb, oo, hbe, hbb, hcc⟩ := hst.get (by rw [hmap]; omega)
        injection hbe with hbe
        injection hbe with hb1 hb2
        subst hb1 hb2
        have g0 := hcc k (by rw [hmap]; exact hlt)
        rw [show (P.map mkB)[k]'(by rw [hmap]; exact hlt) = mkB P[k] from List.getElem_map _, Nat.zero_add] at g0
        have hxs := HSZ.out k hlt
        have HALL := hid (lst_all hlt)
        have HTK := hid (lst_next hlt)
        obtain ⟨x, hx⟩ : ∃ x, x = P[k] := ⟨_, rfl⟩
        rw [← hx] at g0 hxs HALL HTK
        have HCU := hid (fun W (q : New w W) => cut_c 45 (mkB x) W (HV.out W q) (by omega))
        rw [show (mkB x).data.toList = x from rfl] at HCU
        have hPX : partP x = runP (cutB 45 x).1 (if (cutB 45 x).2.2 = true then (cutB 45 x).2.1 else (cutB 45 x).1) := rfl
        have hl1 := cutB_le 45 x
        have hxl : (mkB x).size = x.length := size_list x
        clear hst hcc hx hO hN hpp
        cases htw : (cutB 45 x).2.2 with
        | true =>
          rw [htw, if_pos rfl] at hPX
          rw [htw] at HCU
          obtain ⟨A, hA⟩ : ∃ A, A = (cutB 45 x).1 := ⟨_, rfl⟩
          obtain ⟨B, hB⟩ : ∃ B, B = (cutB 45 x).2.1 := ⟨_, rfl⟩
          rw [← hA, ← hB] at hPX HCU hl1
          clear hA hB htw
          have HNA := hid (fun W (q : New w W) => bnumber_any (mkB A) W (by rw [show (mkB A).size = A.length from size_list A]; omega) (HV.out W q))
          have HNB := hid (fun W (q : New w W) => bnumber_any (mkB B) W (by rw [show (mkB B).size = B.length from size_list B]; omega) (HV.out W q))
          rw [show (mkB A).data.toList = A from rfl] at HNA
          rw [show (mkB B).data.toList = B from rfl] at HNB
          go_wp2_with fail
          refine (HCU.out _ HN.out).mono ?_
          rintro e w3 ⟨rfl, n3⟩
          have N3 := hid (HN.out.trans n3)
          have O3 := hid (HO.out.new n3)
          have NN3 := hid n3
          clear n3
          go_wp2_with fail
          refine (HNA.out _ N3.out).mono ?_
          rintro e w4 ⟨⟨xa, ba, rfl, ⟨ha0, ha1⟩, hra⟩, n4⟩
          have N4 := hid (N3.out.trans n4)
          have O4 := hid (O3.out.new n4)
          have NN4 := hid n4
          clear n4
          go_wp2_with fail
          refine (HNB.out _ N4.out).mono ?_
          rintro e w5 ⟨⟨xb, bb2, rfl, ⟨hb0, hb1⟩, hrb⟩, n5⟩
          have N5 := hid (N4.out.trans n5)
          have O5 := hid (O4.out.new n5)
          have NN5 := hid ((NN3.out.trans NN4.out).trans n5)
          clear n5
          rcases hra with ⟨hra, rfl⟩ | ⟨hra, rfl⟩
          · rcases hrb with ⟨hrb, rfl⟩ | ⟨hrb, rfl⟩
            · have hp0 := numP_pos hra
              by_cases h1 : xb < xa
              · have d1 : decide (xb < xa) = true := decide_eq_true h1
                have HX : Hid (X = none) := hid (by rw [HXX.out]; exact bitsP_no1 (by rw [HPS.out, HALL.out]; exact partsP_bad HPP.out (hPX.trans (runP_no3 hra hrb (.inl h1)))))
                clear hra hrb hPX
                go_wp2
                go_ret2
                exact ⟨by rw [HX.out]; rfl, N5.out⟩
              have d1 : decide (xb < xa) = false := decide_eq_false h1
              by_cases h2 : 4096 < xb
              · have d2 : decide (4096 < xb) = true := decide_eq_true h2
                have HX : Hid (X = none) := hid (by rw [HXX.out]; exact bitsP_no1 (by rw [HPS.out, HALL.out]; exact partsP_bad HPP.out (hPX.trans (runP_no3 hra hrb (.inr h2)))))
                clear hra hrb hPX
                go_wp2
                go_ret2
                exact ⟨by rw [HX.out]; rfl, N5.out⟩
              have d2 : decide (4096 < xb) = false := decide_eq_false h2
              have HNX := hid (partsP_next HPP.out (hPX.trans (runP_yes hra hrb (by omega))))
              rw [← HTK.out] at HNX
              have hw1 : IntKind.i64.wrap (xb - xa) = xb - xa := by rw [IntKind.wrap_i64]; omega
              have hw2 : IntKind.i64.wrap (xb - xa + 1) = xb - xa + 1 := by rw [IntKind.wrap_i64]; omega
              clear hra hrb hPX
              go_wp2_with (first | (at_builtin; refine wpList_append_own_at _ rfl _ _ 25 rfl w2.heap.size 66 i0 _ 2 16 Tryz.underlying25 hi hz0 hz1 hz2 rfl (by decide) v RA.length (runRow RA) rfl ?ow ⟨w5.heap.size, 0, none⟩ 1 1 [.int .i64 xa, .int .i64 (xb - xa + 1)] rfl rfl ?hn ?h1 ?h63 ?hby ?hba ?_) | fail)
              case ow => exact O5.out.new ((Mod.refl _ _).alloc _)
              case hn => exact fun j u hj => two_new w5 _ _ _ rfl j u hj
              case h1 => intro u hu; simp at hu; rcases hu with rfl | rfl <;> rfl
              case h63 => unfold maxLen; omega
              case hby => omega
              case hba => have h1 := HN2.out.size; have h2 := NN5.out.size; simp; omega
              intro o6 w6 r6 g6 _ _
              have O6 : Hid (OwnR w6 w2.heap.size o6 (RA ++ [(xa, xb - xa + 1)])) := hid (by
                unfold OwnR
                rw [List.length_append, runRow_app, hRk]
                exact r6)
              have N6 : Hid (New w2 w6) := hid (newGrown ((HN2.out.trans NN5.out).alloc _) g6 (fun j hj => by
                obtain ⟨-, -, -, hb⟩ := O5.out.form
                exact hb j hj))
              clear r6 g6
              go_wp2
              exact ⟨⟨k + 1, _, RA ++ [(xa, xb - xa + 1)], by simp, rfl, by omega, HNX.out, by simp; omega, O6.out, N6.out⟩, by simp [intOf]; omega⟩
            · have HX : Hid (X = none) := hid (by rw [HXX.out]; exact bitsP_no1 (by rw [HPS.out, HALL.out]; exact partsP_bad HPP.out (hPX.trans (runP_no2 hrb))))
              clear hra hrb hPX
              go_wp2
              go_ret2
              exact ⟨by rw [HX.out]; rfl, N5.out⟩
          · have HX : Hid (X = none) := hid (by rw [HXX.out]; exact bitsP_no1 (by rw [HPS.out, HALL.out]; exact partsP_bad HPP.out (hPX.trans (runP_no1 hra))))
            clear hra hrb hPX
            go_wp2
            go_ret2
            exact ⟨by rw [HX.out]; rfl, N5.out⟩
        | false =>
          rw [htw, if_neg (by decide)] at hPX
          rw [htw] at HCU
          obtain ⟨A, hA⟩ : ∃ A, A = (cutB 45 x).1 := ⟨_, rfl⟩
          obtain ⟨B0, hB0⟩ : ∃ B, B = (cutB 45 x).2.1 := ⟨_, rfl⟩
          rw [← hA, ← hB0] at HCU hl1
          rw [← hA] at hPX
          clear hA hB0 htw
          have HNA := hid (fun W (q : New w W) => bnumber_any (mkB A) W (by rw [show (mkB A).size = A.length from size_list A]; omega) (HV.out W q))
          have HNB := hid (fun W (q : New w W) => bnumber_any (mkB A) W (by rw [show (mkB A).size = A.length from size_list A]; omega) (HV.out W q))
          rw [show (mkB A).data.toList = A from rfl] at HNA
          rw [show (mkB A).data.toList = A from rfl] at HNB
          go_wp2_with fail
          refine (HCU.out _ HN.out).mono ?_
          rintro e w3 ⟨rfl, n3⟩
          have N3 := hid (HN.out.trans n3)
          have O3 := hid (HO.out.new n3)
          have NN3 := hid n3
          clear n3
          go_wp2_with fail
          refine (HNA.out _ N3.out).mono ?_
          rintro e w4 ⟨⟨xa, ba, rfl, ⟨ha0, ha1⟩, hra⟩, n4⟩
          have N4 := hid (N3.out.trans n4)
          have O4 := hid (O3.out.new n4)
          have NN4 := hid n4
          clear n4
          go_wp2_with fail
          refine (HNB.out _ N4.out).mono ?_
          rintro e w5 ⟨⟨xb, bb2, rfl, ⟨hb0, hb1⟩, hrb⟩, n5⟩
          have N5 := hid (N4.out.trans n5)
          have O5 := hid (O4.out.new n5)
          have NN5 := hid ((NN3.out.trans NN4.out).trans n5)
          clear n5
          rcases hra with ⟨hra, rfl⟩ | ⟨hra, rfl⟩
          · rcases hrb with ⟨hrb, rfl⟩ | ⟨hrb, rfl⟩
            · have hp0 := numP_pos hra
              by_cases h1 : xb < xa
              · have d1 : decide (xb < xa) = true := decide_eq_true h1
                have HX : Hid (X = none) := hid (by rw [HXX.out]; exact bitsP_no1 (by rw [HPS.out, HALL.out]; exact partsP_bad HPP.out (hPX.trans (runP_no3 hra hrb (.inl h1)))))
                clear hra hrb hPX
                go_wp2
                go_ret2
                exact ⟨by rw [HX.out]; rfl, N5.out⟩
              have d1 : decide (xb < xa) = false := decide_eq_false h1
              by_cases h2 : 4096 < xb
              · have d2 : decide (4096 < xb) = true := decide_eq_true h2
                have HX : Hid (X = none) := hid (by rw [HXX.out]; exact bitsP_no1 (by rw [HPS.out, HALL.out]; exact partsP_bad HPP.out (hPX.trans (runP_no3 hra hrb (.inr h2)))))
                clear hra hrb hPX
                go_wp2
                go_ret2
                exact ⟨by rw [HX.out]; rfl, N5.out⟩
              have d2 : decide (4096 < xb) = false := decide_eq_false h2
              have HNX := hid (partsP_next HPP.out (hPX.trans (runP_yes hra hrb (by omega))))
              rw [← HTK.out] at HNX
              have hw1 : IntKind.i64.wrap (xb - xa) = xb - xa := by rw [IntKind.wrap_i64]; omega
              have hw2 : IntKind.i64.wrap (xb - xa + 1) = xb - xa + 1 := by rw [IntKind.wrap_i64]; omega
              clear hra hrb hPX
              go_wp2_with (first | (at_builtin; refine wpList_append_own_at _ rfl _ _ 25 rfl w2.heap.size 66 i0 _ 2 16 Tryz.underlying25 hi hz0 hz1 hz2 rfl (by decide) v RA.length (runRow RA) rfl ?ow ⟨w5.heap.size, 0, none⟩ 1 1 [.int .i64 xa, .int .i64 (xb - xa + 1)] rfl rfl ?hn ?h1 ?h63 ?hby ?hba ?_) | fail)
              case ow => exact O5.out.new ((Mod.refl _ _).alloc _)
              case hn => exact fun j u hj => two_new w5 _ _ _ rfl j u hj
              case h1 => intro u hu; simp at hu; rcases hu with rfl | rfl <;> rfl
              case h63 => unfold maxLen; omega
              case hby => omega
              case hba => have h1 := HN2.out.size; have h2 := NN5.out.size; simp; omega
              intro o6 w6 r6 g6 _ _
              have O6 : Hid (OwnR w6 w2.heap.size o6 (RA ++ [(xa, xb - xa + 1)])) := hid (by
                unfold OwnR
                rw [List.length_append, runRow_app, hRk]
                exact r6)
              have N6 : Hid (New w2 w6) := hid (newGrown ((HN2.out.trans NN5.out).alloc _) g6 (fun j hj => by
                obtain ⟨-, -, -, hb⟩ := O5.out.form
                exact hb j hj))
              clear r6 g6
              go_wp2
              exact ⟨⟨k + 1, _, RA ++ [(xa, xb - xa + 1)], by simp, rfl, by omega, HNX.out, by simp; omega, O6.out, N6.out⟩, by simp [intOf]; omega⟩
            · have HX : Hid (X = none) := hid (by rw [HXX.out]; exact bitsP_no1 (by rw [HPS.out, HALL.out]; exact partsP_bad HPP.out (hPX.trans (runP_no2 hrb))))
              clear hra hrb hPX
              go_wp2
              go_ret2
              exact ⟨by rw [HX.out]; rfl, N5.out⟩
          · have HX : Hid (X = none) := hid (by rw [HXX.out]; exact bitsP_no1 (by rw [HPS.out, HALL.out]; exact partsP_bad HPP.out (hPX.trans (runP_no1 hra))))
            clear hra hrb hPX
            go_wp2
            go_ret2
            exact ⟨by rw [HX.out]; rfl, N5.out⟩
      · have hkk : k = P.length := by omega
        have HPA := hid (show partsP (partsS t.data.toList) = some RA by rw [HPS.out, ← HPP.out, hkk, List.take_length])
        clear hO hN hpp
        subst hkk
        go_wp2_with fail
        have HRA := hid HO.out.runs
        have HFR := hid (fun W (q : New wr W) => bFrom_any n RA v W (HRA.out.new q) hn)
        cases hfr : frR n RA with
        | error ke =>
          rw [hfr] at HFR
          simp only [frE] at HFR
          have HX : Hid (X = none) := hid (by rw [HXX.out]; exact bitsP_no2 HPA.out hfr)
          have hke : (ke != 0) = true := by rcases frR_err hfr with rfl | rfl <;> rfl
          clear hfr
          refine (HFR.out _ (Mod.refl _ _)).mono ?_
          rintro e w3 ⟨rfl, n3⟩
          have N3 := hid (HN.out.trans n3)
          clear n3
          go_wp2
          go_ret2
          exact ⟨by rw [HX.out]; rfl, N3.out⟩
        | ok f =>
          rw [hfr] at HFR
          simp only [frE] at HFR
          have hff := frR_field hfr
          have HTX := hid (fun W (q : New w W) => bText_any n (mkB f) W hff hn (HV.out W q))
          rw [show (mkB f).data.toList = f from rfl] at HTX
          by_cases ht : txtR (runsF n f) = (t).data.toList
          · have HX : Hid (X = some f) := hid (by rw [HXX.out]; exact bitsP_yes HPA.out hfr ht)
            have hq : ((mkB (txtR (runsF n f))).toList != (t).toList) = false := by
              rw [bne, toL_eqB, show (mkB (txtR (runsF n f))).data.toList = txtR (runsF n f) from rfl, decide_eq_true ht]
              rfl
            have hq2 : ((mkB (txtR (runsF n f))).toList == (t).toList) = true := by rw [toL_eqB]; exact decide_eq_true ht
            clear hfr hff ht
            refine (HFR.out _ (Mod.refl _ _)).mono ?_
            rintro e w3 ⟨rfl, n3⟩
            have N3 := hid (HN.out.trans n3)
            clear n3
            go_wp2_with fail
            refine (HTX.out _ N3.out).mono ?_
            rintro e w4 ⟨rfl, n4⟩
            have N4 := hid (N3.out.trans n4)
            clear n4
            go_wp2
            go_ret2
            exact ⟨by rw [HX.out]; rfl, N4.out⟩
          · have HX : Hid (X = none) := hid (by rw [HXX.out]; exact bitsP_no3 HPA.out hfr ht)
            have hq : ((mkB (txtR (runsF n f))).toList != (t).toList) = true := by
              rw [bne, toL_eqB, show (mkB (txtR (runsF n f))).data.toList = txtR (runsF n f) from rfl, decide_eq_false ht]
              rfl
            have hq2 : ((mkB (txtR (runsF n f))).toList == (t).toList) = false := by rw [toL_eqB]; exact decide_eq_false ht
            clear hfr hff ht
            refine (HFR.out _ (Mod.refl _ _)).mono ?_
            rintro e w3 ⟨rfl, n3⟩
            have N3 := hid (HN.out.trans n3)
            clear n3
            go_wp2_with fail
            refine (HTX.out _ N3.out).mono ?_
            rintro e w4 ⟨rfl, n4⟩
            have N4 := hid (N3.out.trans n4)
            clear n4
            go_wp2
            go_ret2
            exact ⟨by rw [HX.out]; rfl, N4.out⟩
end Go.Proofs.YtbgmkplpolgebaaGreatDoor
