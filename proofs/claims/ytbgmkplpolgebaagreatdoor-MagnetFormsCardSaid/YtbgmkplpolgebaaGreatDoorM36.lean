/-
  Several texts in one, in their build order. The walk of Parse (package magnet), for any text: the walk. Conditions: the library's variables are as laid.
-/
import Derived.Test.YtbgmkplpolgebaaGreatDoorM28
namespace Go.Proofs.YtbgmkplpolgebaaGreatDoor
set_option linter.unusedSimpArgs false
set_option linter.unusedVariables false
open Go.RowKit Go.Shelf

def zeroMg : Array Value := #[.string ⟨#[]⟩, .string ⟨#[]⟩, .string ⟨#[]⟩, .slice none 0 0, .slice none 0 0, .slice none 0 0, .slice none 0 0]
theorem partM_1 (m : MgV) {K V : List UInt8} (h : K = pXt.data.toList) : partM m K V = topM m (mkB V) := by unfold partM; rw [if_pos h]
theorem partM_2 (m : MgV) {K V : List UInt8} (h : K = pDn.data.toList) : partM m K V = nameM m V := by subst h; rfl
theorem partM_3 (m : MgV) {K V : List UInt8} (h : K = pTr.data.toList) : partM m K V = trM m V := by subst h; rfl
theorem partM_4 (m : MgV) {K V : List UInt8} (h : K = pWs.data.toList) : partM m K V = wsM m V := by subst h; rfl
theorem partM_5 (m : MgV) {K V : List UInt8} (h : K = pPe.data.toList) : partM m K V = peM m V := by subst h; rfl
theorem partM_6 (m : MgV) {K V : List UInt8} (h : K = pSo.data.toList) : partM m K V = soM m V := by subst h; rfl
theorem partM_7 (m : MgV) {K V : List UInt8} (h1 : K ≠ pXt.data.toList) (h2 : K ≠ pDn.data.toList) (h3 : K ≠ pTr.data.toList) (h4 : K ≠ pWs.data.toList) (h5 : K ≠ pPe.data.toList) (h6 : K ≠ pSo.data.toList) : partM m K V = .ok m := by unfold partM; rw [if_neg h1, if_neg h2, if_neg h3, if_neg h4, if_neg h5, if_neg h6]
theorem mkB_eq {K : List UInt8} {c : ByteArray} (h : K = c.data.toList) : mkB K = c := by rw [h, data_mkB]
theorem mkB_ne {K : List UInt8} {c : ByteArray} (h : K ≠ c.data.toList) : mkB K ≠ c := fun e => h (by rw [← e]; rfl)
set_option maxRecDepth 100000 in
set_option maxHeartbeats 8000000 in
theorem mParse_go (s : ByteArray) (w : World) (hs : s.size ≤ 65536) (hv : VarP w) :
    Calls Tryz.prog 8 #[.string s] w fun e w' => magQ w.heap.size (magP s.data.toList) e w' ∧ New w w' := by
  have hI : ¬ (65536 : Int) < (s.size : Int) := by omega
  have hlen : s.data.toList.length = s.size := by rw [Array.length_toList]; rfl
  have HCP := hid (fun W => cutp_any s W)
  have HV := hid hv
  have hfn := neq_fn
  have hfz := neq_nil
  obtain ⟨X, hX⟩ : ∃ X, X = magP s.data.toList := ⟨_, rfl⟩
  rw [← hX]
  have HXX := hid hX
  clear hX hv
  cases hp : kHead.isPrefixOf s.data.toList with
  | false =>
    have HX : Hid (X = .error 2) := hid (by rw [HXX.out]; unfold magP; rw [if_neg (by omega), hp, if_neg (by decide)])
    rw [hp] at HCP
    clear hp hlen
    go_enter_defers Tryz.func8, Tryz.ntmps8
    go_wp2_with fail
    refine (HCP.out _).mono ?_
    rintro e w2 ⟨⟨R0, rfl, hR0⟩, rfl⟩
    go_wp2_with fail
    refine (need_no 2 _).mono ?_
    rintro e w2 ⟨rfl, rfl⟩
    go_wp2
    refine name_worldA (p := fun W => Leaves _ _ _ _ _ _ W) (fun W hW => ?_)
    have BMx : Blk W w.heap.size zeroMg 27 := by
      rw [hW]
      apply Blk.row
      · repeat (first | with_reducible exact hI | (with_reducible apply Blk.newAt; (simp; done)) | with_reducible apply Blk.alloc | with_reducible apply Blk.drew | with_reducible apply Blk.drewN | with_reducible apply Blk.set | (with_reducible apply Blk.other; · first | (simp; done) | (simp; omega) | omega) | (with_reducible apply Blk.putObj; · first | (simp; done) | (simp; omega) | omega))
      · rfl
    have BEx : Blk W (w.heap.size + 1) #[.int .i64 0] 28 := by
      rw [hW]
      apply Blk.row
      · repeat (first | with_reducible exact hI | (with_reducible apply Blk.newAt; (simp; done)) | with_reducible apply Blk.alloc | with_reducible apply Blk.drew | with_reducible apply Blk.drewN | with_reducible apply Blk.set | (with_reducible apply Blk.other; · first | (simp; done) | (simp; omega) | omega) | (with_reducible apply Blk.putObj; · first | (simp; done) | (simp; omega) | omega))
      · rfl
    have NWx : New w W := by
      rw [hW]
      repeat (first | with_reducible exact Mod.refl _ w | with_reducible refine Mod.alloc ?_ _ | with_reducible refine Mod.drew ?_ | with_reducible refine Mod.drewN ?_ _ | (with_reducible refine Mod.set ?_ _ _ (by first | exact .inl rfl | (right; omega) | (right; simp; done) | (right; simp; omega) | (left; omega) | (left; simp; done) | (left; simp; omega))) | (with_reducible refine Mod.putObj ?_ _ _ (by first | exact .inl rfl | (right; omega) | (right; simp; done) | (right; simp; omega) | (left; omega) | (left; simp; done) | (left; simp; omega))))
    have BM := hid BMx; have BE := hid BEx; have NW := hid NWx
    clear hW BMx BEx NWx
    refine leaves_cons (f := 21) (args := #[.pointer (some ⟨w.heap.size + 1, 0, none⟩)]) (by simp) (by simp [go_sem]) ?_
    refine (caught_told (w.heap.size + 1) 2 _ BE.out).mono ?_
    rintro e u' w9 ⟨rfl, rfl, bq, m9⟩
    have A9 := m9.blk BM.out (by omega)
    refine ⟨_, pm_results _ _ w.heap.size (w.heap.size + 1) _ _ _ _ _ _ _ _ A9 bq rfl rfl, by rw [HX.out]; rfl, ?_⟩
    exact NW.out.trans' m9 (fun j h1 h2 => by omega)
  | true =>
    rw [hp] at HCP
    have HXR := hid (show X = restM (s.data.toList.drop 8) by rw [HXX.out]; unfold magP; rw [if_neg (by omega), hp, if_pos rfl])
    obtain ⟨ρ, hρ⟩ : ∃ ρ, ρ = s.data.toList.drop 8 := ⟨_, rfl⟩
    have hρl : ρ.length ≤ 65528 := by
      have h8 := (List.isPrefixOf_iff_prefix.1 hp).length_le
      have h9 : kHead.length = 8 := rfl
      rw [hρ, List.length_drop]
      omega
    rw [← hρ] at HXR HCP
    have HSP := hid (fun W (n : New w W) => split_c 38 (mkB ρ) W (HV.out.new n) (by rw [mkB_size]; omega))
    rw [show (mkB ρ).data.toList = ρ from rfl] at HSP
    have hRs : (mkB ρ).size ≤ 65536 := by rw [mkB_size]; omega
    clear hρ hp hlen
    by_cases h0 : ρ = []
    · have HX : Hid (X = .error 8) := hid (by rw [HXR.out, h0]; rfl)
      have hte : ((mkB ρ).toList == []) = true := by rw [beq_iff_eq, ByteArray.toList_eq]; exact h0
      have htI : (mkB ρ).toList.isEmpty = true := by rw [ByteArray.toList_eq, show (mkB ρ).data.toList = ρ from rfl, h0]; rfl
      have HPN := hid (show ((pieces [] 38 ρ).map mkB).length = 1 by rw [h0]; rfl)
      clear h0
      go_enter_defers Tryz.func8, Tryz.ntmps8
      go_wp2_with fail
      refine (HCP.out _).mono ?_
      rintro e w2 ⟨⟨R0, rfl, hR0⟩, rfl⟩
      obtain rfl := hR0 (by trivial)
      clear hR0
      go_wp2_with fail
      refine (need_yes 2 _).mono ?_
      rintro e w2 ⟨rfl, rfl⟩
      go_wp2_with fail
      refine name_worldA (p := fun W => Calls _ _ _ W _) (fun W hW => ?_)
      have BMx : Blk W w.heap.size zeroMg 27 := by
        rw [hW]
        apply Blk.row
        · repeat (first | with_reducible exact hI | (with_reducible apply Blk.newAt; (simp; done)) | with_reducible apply Blk.alloc | with_reducible apply Blk.drew | with_reducible apply Blk.drewN | with_reducible apply Blk.set | (with_reducible apply Blk.other; · first | (simp; done) | (simp; omega) | omega) | (with_reducible apply Blk.putObj; · first | (simp; done) | (simp; omega) | omega))
        · rfl
      have BEx : Blk W (w.heap.size + 1) #[.int .i64 0] 28 := by
        rw [hW]
        apply Blk.row
        · repeat (first | with_reducible exact hI | (with_reducible apply Blk.newAt; (simp; done)) | with_reducible apply Blk.alloc | with_reducible apply Blk.drew | with_reducible apply Blk.drewN | with_reducible apply Blk.set | (with_reducible apply Blk.other; · first | (simp; done) | (simp; omega) | omega) | (with_reducible apply Blk.putObj; · first | (simp; done) | (simp; omega) | omega))
        · rfl
      have BRx : Blk W (w.heap.size + 1 + 1) (rdRow (rdZero mg0)) 49 := by
        rw [hW]
        apply Blk.row
        · repeat (first | with_reducible exact hI | (with_reducible apply Blk.newAt; (simp; done)) | with_reducible apply Blk.alloc | with_reducible apply Blk.drew | with_reducible apply Blk.drewN | with_reducible apply Blk.set | (with_reducible apply Blk.other; · first | (simp; done) | (simp; omega) | omega) | (with_reducible apply Blk.putObj; · first | (simp; done) | (simp; omega) | omega))
        · rfl
      have NWx : New w W := by
        rw [hW]
        repeat (first | with_reducible exact Mod.refl _ w | with_reducible refine Mod.alloc ?_ _ | with_reducible refine Mod.drew ?_ | with_reducible refine Mod.drewN ?_ _ | (with_reducible refine Mod.set ?_ _ _ (by first | exact .inl rfl | (right; omega) | (right; simp; done) | (right; simp; omega) | (left; omega) | (left; simp; done) | (left; simp; omega))) | (with_reducible refine Mod.putObj ?_ _ _ (by first | exact .inl rfl | (right; omega) | (right; simp; done) | (right; simp; omega) | (left; omega) | (left; simp; done) | (left; simp; omega))))
      have BM := hid BMx; have BE := hid BEx; have BR := hid BRx; have NW := hid NWx
      clear hW BMx BEx BRx NWx
      refine (HSP.out _ NW.out).mono ?_
      rintro e w3 ⟨rfl, hst, n3⟩
      have BM3 := hid (New.blk n3 BM.out)
      have BE3 := hid (New.blk n3 BE.out)
      have BR3 := hid (New.blk n3 BR.out)
      have N3 := hid (NW.out.trans n3)
      have HW3 := hid (show w.heap.size + 1 + 1 < w3.heap.size from BR3.out.lt)
      obtain ⟨bb, oo, hbe, hbb, hcc⟩ := hst.get (by rw [List.length_map]; exact List.length_pos_iff.2 (pieces_ne _ _ _))
      have HWW := hid BR.out.lt
      injection hbe with hbe
      injection hbe with hb1 hb2
      subst hb1 hb2
      have g0 := hcc 0 (by rw [HPN.out]; omega)
      rw [HPN.out]
      have G0 := hid g0
      clear hst hcc hbb n3 g0
      go_wp2_with fail
      go_loopw [27] (fun i wr => i = .int .i64 0 ∧ wr = w3) (fun i _ => 0)
      case atStart => exact ⟨rfl, rfl⟩
      case round =>
        obtain ⟨rfl, rfl⟩ := hrel
        have g0 := G0.out
        have d0 : wr.cell? ⟨w.heap.size + 1 + 1, 0, none⟩ = some (.string ⟨#[]⟩) := BR3.out.cellv 0 rfl
        have d1 : wr.cell? ⟨w.heap.size + 1 + 1, 1, none⟩ = some (.string ⟨#[]⟩) := BR3.out.cellv 1 rfl
        have hadd : ∀ w, (Op.stringOp .add (⟨#[]⟩ : ByteArray) ⟨#[]⟩).run Tryz.prog w = .ok (.string ⟨#[]⟩) w := fun w => run_string_add_sum (w := w) _ _ (by decide +kernel)
        go_wp2_with fail
        refine (need_no 8 _).mono ?_
        rintro e w4 ⟨rfl, rfl⟩
        go_wp2
        refine leaves_cons (f := 21) (args := #[.pointer (some ⟨w.heap.size + 1, 0, none⟩)]) (by simp) (by simp [go_sem]) ?_
        refine (caught_told (w.heap.size + 1) 8 _ BE3.out).mono ?_
        rintro e u' w9 ⟨rfl, rfl, bq, m9⟩
        have A9 := m9.blk BM3.out (by omega)
        refine ⟨_, pm_results _ _ w.heap.size (w.heap.size + 1) _ _ _ _ _ _ _ _ A9 bq rfl rfl, by rw [HX.out]; rfl, ?_⟩
        exact N3.out.trans' m9 (fun j h1 h2 => by omega)
    · have HHC := hid (fun k (h : k < (pieces [] 38 ρ).length) => lst_all h)
      have HRM := hid (show restM ρ = (match foldM mg0 (pieces [] 38 ρ) with | .error k => .error k | .ok m => endM m) by unfold restM; rw [if_neg h0]; cases foldM mg0 (pieces [] 38 ρ) <;> rfl)
      have HPS := hid (fun x hx => piece_le [] (by simp) 38 ρ x hx)
      have hcl := List.count_le_length (l := ρ) (a := 38)
      have hpl := pieces_len [] 38 ρ
      have hte : ((mkB ρ).toList == []) = false := by rw [beq_eq_false_iff_ne, ByteArray.toList_eq]; exact h0
      have htI : (mkB ρ).toList.isEmpty = false := by
        rw [ByteArray.toList_eq, show (mkB ρ).data.toList = ρ from rfl]
        cases ρ with
        | nil => exact absurd rfl h0
        | cons x y => rfl
      obtain ⟨P, hP⟩ : ∃ P, P = pieces [] 38 ρ := ⟨_, rfl⟩
      have HP := hid hP
      have hpne : 0 < P.length := by rw [hP]; exact List.length_pos_iff.2 (pieces_ne _ _ _)
      have hPl : P.length ≤ 65537 := by rw [← hP] at hpl; omega
      rw [← hP] at HSP HHC HRM HPS
      have HPSZ : Hid (∀ k (h : k < P.length), P[k].length ≤ 65529) := hid (fun k h => by have := HPS.out _ (List.getElem_mem h); omega)
      clear h0 hP hcl hpl
      go_enter_defers Tryz.func8, Tryz.ntmps8
      go_wp2_with fail
      refine (HCP.out _).mono ?_
      rintro e w2 ⟨⟨R0, rfl, hR0⟩, rfl⟩
      obtain rfl := hR0 (by trivial)
      clear hR0
      go_wp2_with fail
      refine (need_yes 2 _).mono ?_
      rintro e w2 ⟨rfl, rfl⟩
      go_wp2_with fail
      refine name_worldA (p := fun W => Calls _ _ _ W _) (fun W hW => ?_)
      have BMx : Blk W w.heap.size zeroMg 27 := by
        rw [hW]
        apply Blk.row
        · repeat (first | with_reducible exact hI | (with_reducible apply Blk.newAt; (simp; done)) | with_reducible apply Blk.alloc | with_reducible apply Blk.drew | with_reducible apply Blk.drewN | with_reducible apply Blk.set | (with_reducible apply Blk.other; · first | (simp; done) | (simp; omega) | omega) | (with_reducible apply Blk.putObj; · first | (simp; done) | (simp; omega) | omega))
        · rfl
      have BEx : Blk W (w.heap.size + 1) #[.int .i64 0] 28 := by
        rw [hW]
        apply Blk.row
        · repeat (first | with_reducible exact hI | (with_reducible apply Blk.newAt; (simp; done)) | with_reducible apply Blk.alloc | with_reducible apply Blk.drew | with_reducible apply Blk.drewN | with_reducible apply Blk.set | (with_reducible apply Blk.other; · first | (simp; done) | (simp; omega) | omega) | (with_reducible apply Blk.putObj; · first | (simp; done) | (simp; omega) | omega))
        · rfl
      have BRx : Blk W (w.heap.size + 1 + 1) (rdRow (rdZero mg0)) 49 := by
        rw [hW]
        apply Blk.row
        · repeat (first | with_reducible exact hI | (with_reducible apply Blk.newAt; (simp; done)) | with_reducible apply Blk.alloc | with_reducible apply Blk.drew | with_reducible apply Blk.drewN | with_reducible apply Blk.set | (with_reducible apply Blk.other; · first | (simp; done) | (simp; omega) | omega) | (with_reducible apply Blk.putObj; · first | (simp; done) | (simp; omega) | omega))
        · rfl
      have NWx : New w W := by
        rw [hW]
        repeat (first | with_reducible exact Mod.refl _ w | with_reducible refine Mod.alloc ?_ _ | with_reducible refine Mod.drew ?_ | with_reducible refine Mod.drewN ?_ _ | (with_reducible refine Mod.set ?_ _ _ (by first | exact .inl rfl | (right; omega) | (right; simp; done) | (right; simp; omega) | (left; omega) | (left; simp; done) | (left; simp; omega))) | (with_reducible refine Mod.putObj ?_ _ _ (by first | exact .inl rfl | (right; omega) | (right; simp; done) | (right; simp; omega) | (left; omega) | (left; simp; done) | (left; simp; omega))))
      have BM := hid BMx; have BE := hid BEx; have BR := hid BRx; have NW := hid NWx
      clear hW BMx BEx BRx NWx
      refine (HSP.out _ NW.out).mono ?_
      rintro e w3 ⟨rfl, hst, n3⟩
      have BM3 := hid (New.blk n3 BM.out)
      have BE3 := hid (New.blk n3 BE.out)
      have BR3 := hid (New.blk n3 BR.out)
      have N3 := hid (NW.out.trans n3)
      have HW3 := hid (show w.heap.size + 1 + 1 < w3.heap.size from BR3.out.lt)
      obtain ⟨bb, oo, hbe, hbb, hcc⟩ := hst.get (by rw [List.length_map]; exact hpne)
      have HWW := hid BR.out.lt
      injection hbe with hbe
      injection hbe with hb1 hb2
      subst hb1 hb2
      have HCC : Hid (∀ k (h : k < P.length) wr, Mod (fun j => j = w.heap.size + 1 + 1 ∨ w3.heap.size ≤ j) w3 wr → wr.cell? ⟨W.heap.size, 0 + k, none⟩ = some (.string (mkB P[k]))) := hid (fun k h wr m => by
        have h1 := hcc k (by rw [List.length_map]; exact h)
        rw [show (P.map mkB)[k]'(by rw [List.length_map]; exact h) = mkB P[k] from List.getElem_map _] at h1
        exact Mod.cellv m h1 (by simp only; have := HWW.out; have := hbb; omega))
      have hmap : (P.map mkB).length = P.length := List.length_map _
      rw [hmap]
      clear hst hcc n3
      go_wp2_with fail
      go_loopw [27] (fun i wr => ∃ (k : Nat) (m : MgV) (r : RdM), i = .int .i64 k ∧ k ≤ P.length ∧ foldM mg0 (P.take k) = .ok m ∧ RdIs 49 wr (w.heap.size + 1 + 1) w3.heap.size m r ∧ Mod (fun j => j = w.heap.size + 1 + 1 ∨ w3.heap.size ≤ j) w3 wr) (fun i _ => P.length - (intOf i).toNat)
      case atStart => exact ⟨0, mg0, rdZero mg0, rfl, by omega, by rw [List.take_zero]; rfl, RdIs.zero BR3.out HW3.out, Mod.refl _ _⟩
      case round =>
        obtain ⟨k, m, r, rfl, hk, hfk, hr, hm⟩ := hrel
        have HFK := hid hfk; have HR := hid hr; have HM := hid hm
        have NR : Hid (New w wr) := hid (N3.out.trans' hm (fun j h1 h2 => by have := HW3.out; omega))
        have BMr := hid (hm.blk BM3.out (by have := HW3.out; omega))
        have BEr := hid (hm.blk BE3.out (by have := HW3.out; omega))
        clear hfk hr
        by_cases hlt : k < P.length
        · have hltI : (k : Int) < (P.length : Int) := by omega
          have g0 := HCC.out k hlt wr hm
          rw [Nat.zero_add] at g0
          have hps := HPSZ.out k hlt
          have HBAD : Hid (∀ ke, pieceM m P[k] = .error ke → X = .error ke) := hid (fun ke q => by
            rw [HXR.out, HRM.out, HHC.out k hlt, foldM_bad HFK.out q])
          have HNEXT : Hid (∀ m', pieceM m P[k] = .ok m' → foldM mg0 (P.take (k + 1)) = .ok m') := hid (fun m' q => by
            rw [lst_next hlt]
            exact foldM_next HFK.out q)
          obtain ⟨p, hp⟩ : ∃ p, p = P[k] := ⟨_, rfl⟩
          rw [← hp] at g0 HBAD HNEXT hps
          have HCU := hid (fun W (n : New w W) => cut_c 61 (mkB p) W (HV.out.new n) (by rw [mkB_size]; omega))
          rw [show (mkB p).data.toList = p from rfl] at HCU
          have hl1 := cutB_le 61 p
          have HPC0 := hid (show pieceM m p = if (cutB 61 p).2.2 = true then partM m (cutB 61 p).1 (cutB 61 p).2.1 else .error 2 from rfl)
          obtain ⟨K, hK⟩ : ∃ K, K = (cutB 61 p).1 := ⟨_, rfl⟩
          obtain ⟨V, hV⟩ : ∃ V, V = (cutB 61 p).2.1 := ⟨_, rfl⟩
          obtain ⟨two, htw⟩ : ∃ two, two = (cutB 61 p).2.2 := ⟨_, rfl⟩
          rw [← hK, ← hV, ← htw] at HCU HPC0
          rw [← hK, ← hV] at hl1
          clear hK hV htw hp hm
          cases two with
          | false =>
            have HX := hid (HBAD.out 2 (HPC0.out.trans (if_neg (by decide))))
            go_wp2_with fail
            refine (HCU.out _ NR.out).mono ?_
            rintro e w4 ⟨rfl, n4⟩
            have BM4 := hid (New.blk n4 BMr.out); have BE4 := hid (New.blk n4 BEr.out); have N4 := hid (NR.out.trans n4)
            clear n4
            go_wp2_with fail
            refine (need_no 2 _).mono ?_
            rintro e w5 ⟨rfl, rfl⟩
            go_wp2
            refine leaves_cons (f := 21) (args := #[.pointer (some ⟨w.heap.size + 1, 0, none⟩)]) (by simp) (by simp [go_sem]) ?_
            refine (caught_told (w.heap.size + 1) 2 _ BE4.out).mono ?_
            rintro e u' w9 ⟨rfl, rfl, bq, m9⟩
            have A9 := m9.blk BM4.out (by omega)
            refine ⟨_, pm_results _ _ w.heap.size (w.heap.size + 1) _ _ _ _ _ _ _ _ A9 bq rfl rfl, by rw [HX.out]; rfl, ?_⟩
            exact N4.out.trans' m9 (fun j h1 h2 => by omega)
          | true =>
            have HPC := hid (HPC0.out.trans (if_pos rfl))
            have hVS : (mkB V).size ≤ 65536 := by rw [mkB_size]; omega
            go_wp2_with fail
            refine (HCU.out _ NR.out).mono ?_
            rintro e w4 ⟨rfl, n4⟩
            have HR4 := hid (HR.out.next n4)
            have N4 := hid (NR.out.trans n4)
            have M4 : Hid (Mod (fun j => j = w.heap.size + 1 + 1 ∨ w3.heap.size ≤ j) w3 w4) := hid (HM.out.trans (New.mod n4))
            clear n4
            go_wp2_with fail
            refine (need_yes 2 _).mono ?_
            rintro e w5 ⟨rfl, rfl⟩
            go_wp2_with fail
            refine (parts_any _).mono ?_
            rintro e w5 ⟨b, xl, yl, rfl, hf, hx3, hy3, n5⟩
            have HFA := hid hf
            have HX3 := hid hx3; have HY3 := hid hy3
            have HR5 := hid (HR4.out.next n5)
            have N5 := hid (N4.out.trans n5)
            have M5 : Hid (Mod (fun j => j = w.heap.size + 1 + 1 ∨ w3.heap.size ≤ j) w3 w5) := hid (M4.out.trans (New.mod n5))
            have HV5 := hid (HV.out.new N5.out)
            clear hf hx3 hy3 n5
            by_cases k1 : K = pXt.data.toList
            · have HPM := hid (partM_1 m k1 (V := V))
              rw [mkB_eq k1]
              clear k1
              have lk := plook_pXt HFA.out
              try unfold listF at lk
              go_wp2_with fail
              refine (xt_part (w.heap.size + 1 + 1) w3.heap.size m r (mkB V) w5 HR5.out hVS).mono ?_
              intro e w6 hq
              try rw [show (mkB V).data.toList = V from rfl] at hq
              cases hx : topM m (mkB V) with
              | error ke =>
                have HX := hid (HBAD.out _ ((HPC.out.trans HPM.out).trans hx))
                rw [hx] at hq
                obtain ⟨he, -, hm⟩ := hq
                simp only [PartE] at he
                subst he
                have M6 := hid ((M5.out.trans hm : Mod (fun j => j = w.heap.size + 1 + 1 ∨ w3.heap.size ≤ j) w3 w6))
                have BM6 := hid (M6.out.blk BM3.out (by have := HW3.out; omega))
                have BE6 := hid (M6.out.blk BE3.out (by have := HW3.out; omega))
                have NN6 : Hid (New w w6) := hid (N3.out.trans' M6.out (fun j h1 h2 => by have := HW3.out; omega))
                clear hx hm
                go_wp2
                refine leaves_cons (f := 21) (args := #[.pointer (some ⟨w.heap.size + 1, 0, none⟩)]) (by simp) (by simp [go_sem]) ?_
                refine (caught_told (w.heap.size + 1) ke _ BE6.out).mono ?_
                rintro e u' w9 ⟨rfl, rfl, bq, m9⟩
                have A9 := m9.blk BM6.out (by omega)
                refine ⟨_, pm_results _ _ w.heap.size (w.heap.size + 1) _ _ _ _ _ _ _ _ A9 bq rfl rfl, by rw [HX.out]; rfl, ?_⟩
                exact NN6.out.trans' m9 (fun j h1 h2 => by omega)
              | ok m' =>
                have HNX := hid (HNEXT.out m' ((HPC.out.trans HPM.out).trans hx))
                rw [hx] at hq
                obtain ⟨he, hok, hm⟩ := hq
                obtain ⟨r', hr'⟩ := hok m' rfl
                simp only [PartE] at he
                subst he
                have M6 := hid ((M5.out.trans hm : Mod (fun j => j = w.heap.size + 1 + 1 ∨ w3.heap.size ≤ j) w3 w6))
                have HR6 := hid hr'
                clear hx hm hok hr'
                go_wp2
                exact ⟨⟨k + 1, m', r', by simp, by omega, HNX.out, HR6.out, M6.out⟩, by simp [intOf]; omega⟩
            by_cases k2 : K = pDn.data.toList
            · have HPM := hid (partM_2 m k2 (V := V))
              rw [mkB_eq k2]
              clear k1 k2
              have lk := plook_pDn HFA.out
              try unfold listF at lk
              go_wp2_with fail
              refine (dn_part (w.heap.size + 1 + 1) w3.heap.size m r (mkB V) w5 HR5.out hVS).mono ?_
              intro e w6 hq
              try rw [show (mkB V).data.toList = V from rfl] at hq
              cases hx : nameM m V with
              | error ke =>
                have HX := hid (HBAD.out _ ((HPC.out.trans HPM.out).trans hx))
                rw [hx] at hq
                obtain ⟨he, -, hm⟩ := hq
                simp only [PartE] at he
                subst he
                have M6 := hid ((M5.out.trans hm : Mod (fun j => j = w.heap.size + 1 + 1 ∨ w3.heap.size ≤ j) w3 w6))
                have BM6 := hid (M6.out.blk BM3.out (by have := HW3.out; omega))
                have BE6 := hid (M6.out.blk BE3.out (by have := HW3.out; omega))
                have NN6 : Hid (New w w6) := hid (N3.out.trans' M6.out (fun j h1 h2 => by have := HW3.out; omega))
                clear hx hm
                go_wp2
                refine leaves_cons (f := 21) (args := #[.pointer (some ⟨w.heap.size + 1, 0, none⟩)]) (by simp) (by simp [go_sem]) ?_
                refine (caught_told (w.heap.size + 1) ke _ BE6.out).mono ?_
                rintro e u' w9 ⟨rfl, rfl, bq, m9⟩
                have A9 := m9.blk BM6.out (by omega)
                refine ⟨_, pm_results _ _ w.heap.size (w.heap.size + 1) _ _ _ _ _ _ _ _ A9 bq rfl rfl, by rw [HX.out]; rfl, ?_⟩
                exact NN6.out.trans' m9 (fun j h1 h2 => by omega)
              | ok m' =>
                have HNX := hid (HNEXT.out m' ((HPC.out.trans HPM.out).trans hx))
                rw [hx] at hq
                obtain ⟨he, hok, hm⟩ := hq
                obtain ⟨r', hr'⟩ := hok m' rfl
                simp only [PartE] at he
                subst he
                have M6 := hid ((M5.out.trans hm : Mod (fun j => j = w.heap.size + 1 + 1 ∨ w3.heap.size ≤ j) w3 w6))
                have HR6 := hid hr'
                clear hx hm hok hr'
                go_wp2
                exact ⟨⟨k + 1, m', r', by simp, by omega, HNX.out, HR6.out, M6.out⟩, by simp [intOf]; omega⟩
            by_cases k3 : K = pTr.data.toList
            · have HPM := hid (partM_3 m k3 (V := V))
              rw [mkB_eq k3]
              clear k1 k2 k3
              have lk := plook_pTr HFA.out
              try unfold listF at lk
              go_wp2_with fail
              refine (tr_part (w.heap.size + 1 + 1) w3.heap.size xl m r (mkB V) w5 HR5.out HX3.out hVS M5.out.size).mono ?_
              intro e w6 hq
              try rw [show (mkB V).data.toList = V from rfl] at hq
              cases hx : trM m V with
              | error ke =>
                have HX := hid (HBAD.out _ ((HPC.out.trans HPM.out).trans hx))
                rw [hx] at hq
                obtain ⟨he, -, hm⟩ := hq
                simp only [PartE] at he
                subst he
                have M6 := hid ((M5.out.trans hm : Mod (fun j => j = w.heap.size + 1 + 1 ∨ w3.heap.size ≤ j) w3 w6))
                have BM6 := hid (M6.out.blk BM3.out (by have := HW3.out; omega))
                have BE6 := hid (M6.out.blk BE3.out (by have := HW3.out; omega))
                have NN6 : Hid (New w w6) := hid (N3.out.trans' M6.out (fun j h1 h2 => by have := HW3.out; omega))
                clear hx hm
                go_wp2
                refine leaves_cons (f := 21) (args := #[.pointer (some ⟨w.heap.size + 1, 0, none⟩)]) (by simp) (by simp [go_sem]) ?_
                refine (caught_told (w.heap.size + 1) ke _ BE6.out).mono ?_
                rintro e u' w9 ⟨rfl, rfl, bq, m9⟩
                have A9 := m9.blk BM6.out (by omega)
                refine ⟨_, pm_results _ _ w.heap.size (w.heap.size + 1) _ _ _ _ _ _ _ _ A9 bq rfl rfl, by rw [HX.out]; rfl, ?_⟩
                exact NN6.out.trans' m9 (fun j h1 h2 => by omega)
              | ok m' =>
                have HNX := hid (HNEXT.out m' ((HPC.out.trans HPM.out).trans hx))
                rw [hx] at hq
                obtain ⟨he, hok, hm⟩ := hq
                obtain ⟨r', hr'⟩ := hok m' rfl
                simp only [PartE] at he
                subst he
                have M6 := hid ((M5.out.trans hm : Mod (fun j => j = w.heap.size + 1 + 1 ∨ w3.heap.size ≤ j) w3 w6))
                have HR6 := hid hr'
                clear hx hm hok hr'
                go_wp2
                exact ⟨⟨k + 1, m', r', by simp, by omega, HNX.out, HR6.out, M6.out⟩, by simp [intOf]; omega⟩
            by_cases k4 : K = pWs.data.toList
            · have HPM := hid (partM_4 m k4 (V := V))
              rw [mkB_eq k4]
              clear k1 k2 k3 k4
              have lk := plook_pWs HFA.out
              try unfold listF at lk
              go_wp2_with fail
              refine (ws_part (w.heap.size + 1 + 1) w3.heap.size yl m r (mkB V) w5 HR5.out HY3.out hVS M5.out.size).mono ?_
              intro e w6 hq
              try rw [show (mkB V).data.toList = V from rfl] at hq
              cases hx : wsM m V with
              | error ke =>
                have HX := hid (HBAD.out _ ((HPC.out.trans HPM.out).trans hx))
                rw [hx] at hq
                obtain ⟨he, -, hm⟩ := hq
                simp only [PartE] at he
                subst he
                have M6 := hid ((M5.out.trans hm : Mod (fun j => j = w.heap.size + 1 + 1 ∨ w3.heap.size ≤ j) w3 w6))
                have BM6 := hid (M6.out.blk BM3.out (by have := HW3.out; omega))
                have BE6 := hid (M6.out.blk BE3.out (by have := HW3.out; omega))
                have NN6 : Hid (New w w6) := hid (N3.out.trans' M6.out (fun j h1 h2 => by have := HW3.out; omega))
                clear hx hm
                go_wp2
                refine leaves_cons (f := 21) (args := #[.pointer (some ⟨w.heap.size + 1, 0, none⟩)]) (by simp) (by simp [go_sem]) ?_
                refine (caught_told (w.heap.size + 1) ke _ BE6.out).mono ?_
                rintro e u' w9 ⟨rfl, rfl, bq, m9⟩
                have A9 := m9.blk BM6.out (by omega)
                refine ⟨_, pm_results _ _ w.heap.size (w.heap.size + 1) _ _ _ _ _ _ _ _ A9 bq rfl rfl, by rw [HX.out]; rfl, ?_⟩
                exact NN6.out.trans' m9 (fun j h1 h2 => by omega)
              | ok m' =>
                have HNX := hid (HNEXT.out m' ((HPC.out.trans HPM.out).trans hx))
                rw [hx] at hq
                obtain ⟨he, hok, hm⟩ := hq
                obtain ⟨r', hr'⟩ := hok m' rfl
                simp only [PartE] at he
                subst he
                have M6 := hid ((M5.out.trans hm : Mod (fun j => j = w.heap.size + 1 + 1 ∨ w3.heap.size ≤ j) w3 w6))
                have HR6 := hid hr'
                clear hx hm hok hr'
                go_wp2
                exact ⟨⟨k + 1, m', r', by simp, by omega, HNX.out, HR6.out, M6.out⟩, by simp [intOf]; omega⟩
            by_cases k5 : K = pPe.data.toList
            · have HPM := hid (partM_5 m k5 (V := V))
              rw [mkB_eq k5]
              clear k1 k2 k3 k4 k5
              have lk := plook_pPe HFA.out
              try unfold listF at lk
              go_wp2_with fail
              refine (pe_part (w.heap.size + 1 + 1) w3.heap.size m r (mkB V) w5 HR5.out hVS M5.out.size HV5.out).mono ?_
              intro e w6 hq
              try rw [show (mkB V).data.toList = V from rfl] at hq
              cases hx : peM m V with
              | error ke =>
                have HX := hid (HBAD.out _ ((HPC.out.trans HPM.out).trans hx))
                rw [hx] at hq
                obtain ⟨he, -, hm⟩ := hq
                simp only [PartE] at he
                subst he
                have M6 := hid ((M5.out.trans hm : Mod (fun j => j = w.heap.size + 1 + 1 ∨ w3.heap.size ≤ j) w3 w6))
                have BM6 := hid (M6.out.blk BM3.out (by have := HW3.out; omega))
                have BE6 := hid (M6.out.blk BE3.out (by have := HW3.out; omega))
                have NN6 : Hid (New w w6) := hid (N3.out.trans' M6.out (fun j h1 h2 => by have := HW3.out; omega))
                clear hx hm
                go_wp2
                refine leaves_cons (f := 21) (args := #[.pointer (some ⟨w.heap.size + 1, 0, none⟩)]) (by simp) (by simp [go_sem]) ?_
                refine (caught_told (w.heap.size + 1) ke _ BE6.out).mono ?_
                rintro e u' w9 ⟨rfl, rfl, bq, m9⟩
                have A9 := m9.blk BM6.out (by omega)
                refine ⟨_, pm_results _ _ w.heap.size (w.heap.size + 1) _ _ _ _ _ _ _ _ A9 bq rfl rfl, by rw [HX.out]; rfl, ?_⟩
                exact NN6.out.trans' m9 (fun j h1 h2 => by omega)
              | ok m' =>
                have HNX := hid (HNEXT.out m' ((HPC.out.trans HPM.out).trans hx))
                rw [hx] at hq
                obtain ⟨he, hok, hm⟩ := hq
                obtain ⟨r', hr'⟩ := hok m' rfl
                simp only [PartE] at he
                subst he
                have M6 := hid ((M5.out.trans hm : Mod (fun j => j = w.heap.size + 1 + 1 ∨ w3.heap.size ≤ j) w3 w6))
                have HR6 := hid hr'
                clear hx hm hok hr'
                go_wp2
                exact ⟨⟨k + 1, m', r', by simp, by omega, HNX.out, HR6.out, M6.out⟩, by simp [intOf]; omega⟩
            by_cases k6 : K = pSo.data.toList
            · have HPM := hid (partM_6 m k6 (V := V))
              rw [mkB_eq k6]
              clear k1 k2 k3 k4 k5 k6
              have lk := plook_pSo HFA.out
              try unfold listF at lk
              go_wp2_with fail
              refine (so_part (w.heap.size + 1 + 1) w3.heap.size m r (mkB V) w5 HR5.out hVS M5.out.size HV5.out).mono ?_
              intro e w6 hq
              try rw [show (mkB V).data.toList = V from rfl] at hq
              cases hx : soM m V with
              | error ke =>
                have HX := hid (HBAD.out _ ((HPC.out.trans HPM.out).trans hx))
                rw [hx] at hq
                obtain ⟨he, -, hm⟩ := hq
                simp only [PartE] at he
                subst he
                have M6 := hid ((M5.out.trans hm : Mod (fun j => j = w.heap.size + 1 + 1 ∨ w3.heap.size ≤ j) w3 w6))
                have BM6 := hid (M6.out.blk BM3.out (by have := HW3.out; omega))
                have BE6 := hid (M6.out.blk BE3.out (by have := HW3.out; omega))
                have NN6 : Hid (New w w6) := hid (N3.out.trans' M6.out (fun j h1 h2 => by have := HW3.out; omega))
                clear hx hm
                go_wp2
                refine leaves_cons (f := 21) (args := #[.pointer (some ⟨w.heap.size + 1, 0, none⟩)]) (by simp) (by simp [go_sem]) ?_
                refine (caught_told (w.heap.size + 1) ke _ BE6.out).mono ?_
                rintro e u' w9 ⟨rfl, rfl, bq, m9⟩
                have A9 := m9.blk BM6.out (by omega)
                refine ⟨_, pm_results _ _ w.heap.size (w.heap.size + 1) _ _ _ _ _ _ _ _ A9 bq rfl rfl, by rw [HX.out]; rfl, ?_⟩
                exact NN6.out.trans' m9 (fun j h1 h2 => by omega)
              | ok m' =>
                have HNX := hid (HNEXT.out m' ((HPC.out.trans HPM.out).trans hx))
                rw [hx] at hq
                obtain ⟨he, hok, hm⟩ := hq
                obtain ⟨r', hr'⟩ := hok m' rfl
                simp only [PartE] at he
                subst he
                have M6 := hid ((M5.out.trans hm : Mod (fun j => j = w.heap.size + 1 + 1 ∨ w3.heap.size ≤ j) w3 w6))
                have HR6 := hid hr'
                clear hx hm hok hr'
                go_wp2
                exact ⟨⟨k + 1, m', r', by simp, by omega, HNX.out, HR6.out, M6.out⟩, by simp [intOf]; omega⟩
            have HPM := hid (partM_7 m (V := V) k1 k2 k3 k4 k5 k6)
            have HNX := hid (HNEXT.out m (HPC.out.trans HPM.out))
            have lk := plook_none HFA.out (mkB_ne k1) (mkB_ne k2) (mkB_ne k3) (mkB_ne k4) (mkB_ne k5) (mkB_ne k6)
            clear k1 k2 k3 k4 k5 k6
            go_wp2_with fail
            exact ⟨⟨k + 1, m, r, by simp, by omega, HNX.out, HR5.out, M5.out⟩, by simp [intOf]; omega⟩
        · have hkk : k = P.length := by omega
          have HFK2 := hid (show foldM mg0 P = .ok m by rw [← HFK.out, hkk, List.take_length])
          have HOK := hid (foldM_ok HFK.out MgOk.zero)
          have hos := HOK.out.old; have hns := HOK.out.new
          have HXE := hid (show X = endM m by rw [HXR.out, HRM.out, HFK2.out])
          have B2 := HR.out.blk
          have d0 : wr.cell? ⟨w.heap.size + 1 + 1, 0, none⟩ = some (.string m.old) := by rw [← HR.out.old]; exact B2.cellv 0 rfl
          have d1 : wr.cell? ⟨w.heap.size + 1 + 1, 1, none⟩ = some (.string m.new) := by rw [← HR.out.new]; exact B2.cellv 1 rfl
          have hb := show (m.old ++ m.new).size = m.old.size + m.new.size from ByteArray.size_append
          have hadd : ∀ w, (Op.stringOp .add m.old m.new).run Tryz.prog w = .ok (.string (m.old ++ m.new)) w := fun w => run_string_add_sum (w := w) _ _ (by omega)
          obtain ⟨OM, hOM⟩ : ∃ OM, OM = m.old ++ m.new := ⟨_, rfl⟩
          have HOM := hid (show OM.data.toList = m.old.data.toList ++ m.new.data.toList by rw [hOM, ByteArray.data_append, Array.toList_append])
          rw [← hOM] at hadd
          subst hkk
          clear hb hOM hos hns B2 hm
          by_cases hem : m.old.data.toList = [] ∧ m.new.data.toList = []
          · have HX : Hid (X = .error 8) := hid (by rw [HXE.out]; unfold endM; rw [if_pos hem])
            have hnl : OM.data.toList = [] := by rw [HOM.out, hem.1, hem.2]; rfl
            have hqe : (OM.toList == []) = true := by rw [beq_iff_eq, ByteArray.toList_eq]; exact hnl
            have hqI : OM.toList.isEmpty = true := by rw [ByteArray.toList_eq, hnl]; rfl
            have hqn : (OM.toList != []) = false := by rw [bne, hqe]; rfl
            clear hem hnl
            go_wp2_with fail
            refine (need_no 8 _).mono ?_
            rintro e w4 ⟨rfl, rfl⟩
            go_wp2
            refine leaves_cons (f := 21) (args := #[.pointer (some ⟨w.heap.size + 1, 0, none⟩)]) (by simp) (by simp [go_sem]) ?_
            refine (caught_told (w.heap.size + 1) 8 _ BEr.out).mono ?_
            rintro e u' w9 ⟨rfl, rfl, bq, m9⟩
            have A9 := m9.blk BMr.out (by omega)
            refine ⟨_, pm_results _ _ w.heap.size (w.heap.size + 1) _ _ _ _ _ _ _ _ A9 bq rfl rfl, by rw [HX.out]; rfl, ?_⟩
            exact NR.out.trans' m9 (fun j h1 h2 => by omega)
          · have HX : Hid (X = .ok m) := hid (by rw [HXE.out]; unfold endM; rw [if_neg hem])
            have hnl : OM.data.toList ≠ [] := by
              rw [HOM.out]
              intro q
              exact hem (List.append_eq_nil_iff.1 q)
            have hqe : (OM.toList == []) = false := by rw [beq_eq_false_iff_ne, ByteArray.toList_eq]; exact hnl
            have hqI : OM.toList.isEmpty = false := by
              rw [ByteArray.toList_eq]
              cases hq : OM.data.toList with
              | nil => exact absurd hq hnl
              | cons a b => rfl
            have hqn : (OM.toList != []) = true := by rw [bne, hqe]; rfl
            clear hem hnl
            have HTR := hid HR.out.tr
            have d2 : wr.cell? ⟨w.heap.size + 1 + 1, 2, none⟩ = some (.string m.name) := by rw [← HR.out.name]; exact HR.out.blk.cellv 2 rfl
            obtain ⟨ta, tc, htv⟩ := OwnS.form (l := m.tr) ⟨HR.out.tr, HR.out.trs⟩
            obtain ⟨pa, pc, hpv⟩ := OwnA.form (l := m.pe) ⟨HR.out.pe⟩
            obtain ⟨wa, wc, hwv⟩ := OwnS.form (l := m.ws) ⟨HR.out.ws, HR.out.wss⟩
            obtain ⟨oa, oc, hov, -⟩ := OwnR.form (U := m.on) HR.out.on
            have d3 : wr.cell? ⟨w.heap.size + 1 + 1, 3, none⟩ = some (.slice ta m.tr.length tc) := by rw [← htv]; exact HR.out.blk.cellv 3 rfl
            have d4 : wr.cell? ⟨w.heap.size + 1 + 1, 4, none⟩ = some (.slice pa m.pe.length pc) := by rw [← hpv]; exact HR.out.blk.cellv 4 rfl
            have d5 : wr.cell? ⟨w.heap.size + 1 + 1, 5, none⟩ = some (.slice wa m.ws.length wc) := by rw [← hwv]; exact HR.out.blk.cellv 5 rfl
            have d6 : wr.cell? ⟨w.heap.size + 1 + 1, 6, none⟩ = some (.slice oa m.on.length oc) := by rw [← hov]; exact HR.out.blk.cellv 6 rfl
            have m0 := BMr.out.cellv 0 rfl
            have m1 := BMr.out.cellv 1 rfl
            have m2 := BMr.out.cellv 2 rfl
            have m3 := BMr.out.cellv 3 rfl
            have m4 := BMr.out.cellv 4 rfl
            have m5 := BMr.out.cellv 5 rfl
            have m6 := BMr.out.cellv 6 rfl
            have ml := BMr.out.lt
            have mf := BMr.out.frz
            obtain ⟨e1, e2, e3⟩ := BEr.out.one
            have QTR := hid (show wr.ownsRow w3.heap.size 9 1 (.slice ta m.tr.length tc) m.tr.length (m.tr.map Value.string) by rw [← htv]; exact HR.out.tr)
            have QPE := hid (show wr.ownsRow w3.heap.size 64 3 (.slice pa m.pe.length pc) m.pe.length (adrRow m.pe) by rw [← hpv]; exact HR.out.pe)
            have QWS := hid (show wr.ownsRow w3.heap.size 9 1 (.slice wa m.ws.length wc) m.ws.length (m.ws.map Value.string) by rw [← hwv]; exact HR.out.ws)
            have QON := hid (show wr.ownsRow w3.heap.size 66 2 (.slice oa m.on.length oc) m.on.length (runRow m.on) by rw [← hov]; exact HR.out.on)
            clear htv hpv hwv hov
            go_wp2_with fail
            refine (need_yes 8 _).mono ?_
            rintro e w4 ⟨rfl, rfl⟩
            go_wp2
            refine name_worldA (p := fun W => Leaves _ _ _ _ _ _ W) (fun W8 hW8 => ?_)
            have b0x : Blk W8 w.heap.size #[.string m.old, .string m.new, .string m.name, .slice ta m.tr.length tc, .slice pa m.pe.length pc, .slice wa m.ws.length wc, .slice oa m.on.length oc] 27 := by
              rw [hW8]
              apply Blk.row
              · repeat (first | with_reducible exact BMr.out | (with_reducible apply Blk.newAt; (simp; done)) | with_reducible apply Blk.alloc | with_reducible apply Blk.drew | with_reducible apply Blk.drewN | with_reducible apply Blk.set | (with_reducible apply Blk.other; · first | (simp; done) | (simp; omega) | omega) | (with_reducible apply Blk.putObj; · first | (simp; done) | (simp; omega) | omega))
              · rfl
            have b1x : Blk W8 (w.heap.size + 1) #[.int .i64 0] 28 := by
              rw [hW8]
              apply Blk.row
              · repeat (first | with_reducible exact BEr.out | (with_reducible apply Blk.newAt; (simp; done)) | with_reducible apply Blk.alloc | with_reducible apply Blk.drew | with_reducible apply Blk.drewN | with_reducible apply Blk.set | (with_reducible apply Blk.other; · first | (simp; done) | (simp; omega) | omega) | (with_reducible apply Blk.putObj; · first | (simp; done) | (simp; omega) | omega))
              · rfl
            have m8x : Mod (fun j => j = w.heap.size ∨ j = w.heap.size + 1) wr W8 := by
              rw [hW8]
              repeat (first | with_reducible exact Mod.refl _ wr | with_reducible refine Mod.alloc ?_ _ | with_reducible refine Mod.drew ?_ | with_reducible refine Mod.drewN ?_ _ | (with_reducible refine Mod.set ?_ _ _ (by first | exact .inl rfl | (right; omega) | (right; simp; done) | (right; simp; omega) | (left; omega) | (left; simp; done) | (left; simp; omega))) | (with_reducible refine Mod.putObj ?_ _ _ (by first | exact .inl rfl | (right; omega) | (right; simp; done) | (right; simp; omega) | (left; omega) | (left; simp; done) | (left; simp; omega))))
            have N8 : Hid (New w W8) := hid (NR.out.trans' m8x (fun j h1 h2 => by omega))
            have q : ∀ {v : Value} {e : TypeId} {size n' : Nat} {xs : List Value}, wr.ownsRow w3.heap.size e size v n' xs → W8.ownsRow w.heap.size e size v n' xs := fun g => rowBase (rowMod g m8x (fun k q q2 => by have := (rowBlock g q).1; have := HW3.out; omega)) (by have := HW3.out; omega)
            have HMG := hid (show MagIs W8 w.heap.size (.agg #[.string m.old, .string m.new, .string m.name, .slice ta m.tr.length tc, .slice pa m.pe.length pc, .slice wa m.ws.length wc, .slice oa m.on.length oc]) m from ⟨_, _, _, _, rfl, q QTR.out, q QPE.out, q QWS.out, q QON.out⟩)
            have B0 := hid b0x; have B1 := hid b1x
            clear hW8 b0x b1x m8x q
            refine leaves_cons (f := 21) (args := #[.pointer (some ⟨w.heap.size + 1, 0, none⟩)]) (by simp) (by simp [go_sem]) ?_
            refine (caught_idle ⟨w.heap.size + 1, 0, none⟩ _).mono ?_
            rintro e u' w6 ⟨rfl, rfl, rfl⟩
            refine ⟨_, pm_results _ _ w.heap.size (w.heap.size + 1) _ _ _ _ _ _ _ _ B0.out B1.out rfl rfl, by rw [HX.out]; exact ⟨_, rfl, HMG.out⟩, N8.out⟩
end Go.Proofs.YtbgmkplpolgebaaGreatDoor
