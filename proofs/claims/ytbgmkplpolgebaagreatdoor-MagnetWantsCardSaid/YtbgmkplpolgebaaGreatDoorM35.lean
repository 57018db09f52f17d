/-
  Several texts in one, in their build order. The walks of Has (reference's bits) and of the reference's Wants. Conditions: the field is right; the magnet lies as told. The topics of two magnets put together (package magnet: Join's own function). Condition: the cell that notes a common topic lies as told.
-/
import Derived.Test.YtbgmkplpolgebaaGreatDoorM34
import Derived.Test.YtbgmkplpolgebaaGreatDoorM18
import Derived.Test.YtbgmkplpolgebaaGreatDoorM8
import Derived.Test.YtbgmkplpolgebaaGreatDoorM33
import Derived.Lib.MinMaxS
namespace Go.Proofs.YtbgmkplpolgebaaGreatDoor
set_option linter.unusedSimpArgs false
set_option linter.unusedVariables false
open Go.RowKit Go.Shelf

theorem rHas_any (n : Nat) (s : ByteArray) (i : Nat) (w : World) (h : FieldOf n s.data.toList) (hn : n ≤ 4096) (hi : i < n) :
    Calls Tryz.prog 50 #[.int .i64 n, .string s, .int .i64 i] w fun e w' => e = .returned (.tuple #[.bool (bitL s.data.toList i), .int .i64 0]) ∧ w = w' := by
  have HC := hid (fun W => rcheck_ok n s W h hn)
  have hl := h.len
  rw [Array.length_toList] at hl
  have hl2 : s.size = (n + 7) / 8 := hl
  have HT := hid (fun W => rat_any s i W (by omega) (by omega))
  have h1 : (i : Int) < (n : Int) := by omega
  have h2 : ¬ (n : Int) ≤ (i : Int) := by omega
  obtain ⟨B, hB⟩ : ∃ B, B = bitL s.data.toList i := ⟨_, rfl⟩
  rw [← hB] at HT
  rw [← hB]
  clear h hl hl2 hB hi
  go_enter Tryz.func50, Tryz.ntmps50
  go_wp2_with fail
  refine (HC.out _).mono ?_
  rintro e w1 ⟨rfl, rfl⟩
  go_wp2_with fail
  refine (HT.out _).mono ?_
  rintro e w1 ⟨rfl, rfl⟩
  go_wp2
  go_ret2
  exact ⟨rfl, rfl⟩
theorem wantL_succ (m : MgV) (f : Nat) : wantL m (f + 1) = wantL m f ++ (if (bitL (selB m) f || decide (m.on = [])) = true then [f] else []) := by
  unfold wantL
  rw [List.range_succ, List.filter_append]
  congr 1
  rw [List.filter_cons]
  rfl
theorem wantL_le (m : MgV) (f : Nat) : (wantL m f).length ≤ f := by
  have := List.length_filter_le (fun i => bitL (selB m) i || decide (m.on = [])) (List.range f)
  rw [List.length_range] at this
  exact this
theorem OwnC.nums {w : World} {base : Nat} {v : Value} {N : List Nat} (h : OwnC w 3 base v (numV N)) : ∃ a c, v = .slice a N.length c ∧ NmAt w a c N ∧ (a = none → c = 0) := by
  have hl : (numV N).length = N.length := by unfold numV; simp
  rcases Nat.eq_zero_or_pos N.length with q | q
  · have hN := List.eq_nil_of_length_eq_zero q
    subst hN
    have h0 : w.ownsRow base 3 1 v 0 [] := h
    rcases h0.2 with ⟨rfl, -⟩ | ⟨g, cap, cur, rfl, hbg, hg, hnc, hcm, hcs, htake⟩
    · exact ⟨none, 0, rfl, ⟨by simp, by unfold maxLen; omega, .inl rfl⟩, fun _ => rfl⟩
    · exact ⟨_, cap, rfl, ⟨by simp, hcm, .inl rfl⟩, fun e => by cases e⟩
  · obtain ⟨g, c, cs, rfl, h1, h2, h3, h4, h5⟩ := OwnC.blkI h q
    exact ⟨_, c, rfl, ⟨h1, h2, .inr ⟨g, rfl, h4.lt, fun i hi => h4.cellv i (h5 i hi)⟩⟩, fun e => by cases e⟩
set_option maxRecDepth 100000 in
set_option maxHeartbeats 8000000 in
theorem rWants_any (m : MgV) (p : MgP) (f : Int) (w : World) (h : MagAt w m p) :
    Calls Tryz.prog 16 #[magVal m p, .int .i64 f] w fun e w' => wantQ (wantsP m f) e w' ∧ New w w' := by
  have HVA := hid (fun W (n : New w W) => rValid_any m p W (h.new n))
  obtain ⟨ta, tc, pa, pc, sa, sc, oa, oc⟩ := p
  simp only [magVal, magRow] at HVA ⊢
  obtain ⟨X, hX⟩ : ∃ X, X = wantsP m f := ⟨_, rfl⟩
  rw [← hX]
  unfold wantsP at hX
  cases hva : validMg m with
  | false =>
    have HX := hid (show X = .error 1 by rw [hX, if_pos hva])
    rw [hva] at HVA
    clear h hX hva
    go_enter Tryz.func16, Tryz.ntmps16
    go_wp2_with fail
    refine name_worldA (p := fun W => Calls _ _ _ W _) (fun W1 hW => ?_)
    have A1x : Blk W1 w.heap.size #[.string m.old, .string m.new, .string m.name, .slice ta m.tr.length tc, .slice pa m.pe.length pc, .slice sa m.ws.length sc, .slice oa m.on.length oc] 27 := by
      rw [hW]
      apply Blk.row
      · repeat (first | with_reducible exact hW | (with_reducible apply Blk.newAt; (simp; done)) | with_reducible apply Blk.alloc | with_reducible apply Blk.drew | with_reducible apply Blk.drewN | with_reducible apply Blk.set | (with_reducible apply Blk.other; · first | (simp; done) | (simp; omega) | omega) | (with_reducible apply Blk.putObj; · first | (simp; done) | (simp; omega) | omega))
      · rfl
    have N1x : New w W1 := by
      rw [hW]
      repeat (first | with_reducible exact Mod.refl _ w | with_reducible refine Mod.alloc ?_ _ | with_reducible refine Mod.drew ?_ | with_reducible refine Mod.drewN ?_ _ | (with_reducible refine Mod.set ?_ _ _ (by first | exact .inl rfl | (right; omega) | (right; simp; done) | (right; simp; omega) | (left; omega) | (left; simp; done) | (left; simp; omega))) | (with_reducible refine Mod.putObj ?_ _ _ (by first | exact .inl rfl | (right; omega) | (right; simp; done) | (right; simp; omega) | (left; omega) | (left; simp; done) | (left; simp; omega))))
    have A1 := hid A1x; have N1 := hid N1x
    clear hW A1x N1x
    refine (HVA.out _ N1.out).mono ?_
    rintro e w2 ⟨rfl, n2⟩
    have A2 := hid (New.blk n2 A1.out); have N2 := hid (N1.out.trans n2)
    clear n2 A1 N1
    go_wp2
    go_ret2
    exact ⟨by rw [HX.out]; rfl, N2.out⟩
  | true =>
    rw [hva, if_neg (by decide)] at hX
    rw [hva] at HVA
    by_cases h1 : f < 1
    · have HX := hid (show X = .error 7 by rw [hX, if_pos (.inl h1)])
      clear h hX hva
      go_enter Tryz.func16, Tryz.ntmps16
      go_wp2_with fail
      refine name_worldA (p := fun W => Calls _ _ _ W _) (fun W1 hW => ?_)
      have A1x : Blk W1 w.heap.size #[.string m.old, .string m.new, .string m.name, .slice ta m.tr.length tc, .slice pa m.pe.length pc, .slice sa m.ws.length sc, .slice oa m.on.length oc] 27 := by
        rw [hW]
        apply Blk.row
        · repeat (first | with_reducible exact hW | (with_reducible apply Blk.newAt; (simp; done)) | with_reducible apply Blk.alloc | with_reducible apply Blk.drew | with_reducible apply Blk.drewN | with_reducible apply Blk.set | (with_reducible apply Blk.other; · first | (simp; done) | (simp; omega) | omega) | (with_reducible apply Blk.putObj; · first | (simp; done) | (simp; omega) | omega))
        · rfl
      have N1x : New w W1 := by
        rw [hW]
        repeat (first | with_reducible exact Mod.refl _ w | with_reducible refine Mod.alloc ?_ _ | with_reducible refine Mod.drew ?_ | with_reducible refine Mod.drewN ?_ _ | (with_reducible refine Mod.set ?_ _ _ (by first | exact .inl rfl | (right; omega) | (right; simp; done) | (right; simp; omega) | (left; omega) | (left; simp; done) | (left; simp; omega))) | (with_reducible refine Mod.putObj ?_ _ _ (by first | exact .inl rfl | (right; omega) | (right; simp; done) | (right; simp; omega) | (left; omega) | (left; simp; done) | (left; simp; omega))))
      have A1 := hid A1x; have N1 := hid N1x
      clear hW A1x N1x
      refine (HVA.out _ N1.out).mono ?_
      rintro e w2 ⟨rfl, n2⟩
      have A2 := hid (New.blk n2 A1.out); have N2 := hid (N1.out.trans n2)
      clear n2 A1 N1
      go_wp2
      go_ret2
      exact ⟨by rw [HX.out]; rfl, N2.out⟩
    by_cases h2 : 40 < f
    · have HX := hid (show X = .error 7 by rw [hX, if_pos (.inr h2)])
      clear h hX hva
      go_enter Tryz.func16, Tryz.ntmps16
      go_wp2_with fail
      refine name_worldA (p := fun W => Calls _ _ _ W _) (fun W1 hW => ?_)
      have A1x : Blk W1 w.heap.size #[.string m.old, .string m.new, .string m.name, .slice ta m.tr.length tc, .slice pa m.pe.length pc, .slice sa m.ws.length sc, .slice oa m.on.length oc] 27 := by
        rw [hW]
        apply Blk.row
        · repeat (first | with_reducible exact hW | (with_reducible apply Blk.newAt; (simp; done)) | with_reducible apply Blk.alloc | with_reducible apply Blk.drew | with_reducible apply Blk.drewN | with_reducible apply Blk.set | (with_reducible apply Blk.other; · first | (simp; done) | (simp; omega) | omega) | (with_reducible apply Blk.putObj; · first | (simp; done) | (simp; omega) | omega))
        · rfl
      have N1x : New w W1 := by
        rw [hW]
        repeat (first | with_reducible exact Mod.refl _ w | with_reducible refine Mod.alloc ?_ _ | with_reducible refine Mod.drew ?_ | with_reducible refine Mod.drewN ?_ _ | (with_reducible refine Mod.set ?_ _ _ (by first | exact .inl rfl | (right; omega) | (right; simp; done) | (right; simp; omega) | (left; omega) | (left; simp; done) | (left; simp; omega))) | (with_reducible refine Mod.putObj ?_ _ _ (by first | exact .inl rfl | (right; omega) | (right; simp; done) | (right; simp; omega) | (left; omega) | (left; simp; done) | (left; simp; omega))))
      have A1 := hid A1x; have N1 := hid N1x
      clear hW A1x N1x
      refine (HVA.out _ N1.out).mono ?_
      rintro e w2 ⟨rfl, n2⟩
      have A2 := hid (New.blk n2 A1.out); have N2 := hid (N1.out.trans n2)
      clear n2 A1 N1
      go_wp2
      go_ret2
      exact ⟨by rw [HX.out]; rfl, N2.out⟩
    have HX := hid (show X = .ok (wantL m f.toNat) by rw [hX, if_neg (by omega)])
    obtain ⟨S, hS, hfs, hsel, -, -⟩ := want_field (validMg_iff.1 hva)
    have HFR := hid (fun W (n : New w W) => rFrom_any 40 m.on (.slice oa m.on.length oc) W (h.on.new n).runs (by omega))
    rw [hfs] at HFR
    have HHA := hid (fun (i : Nat) (hi : i < 40) W => rHas_any 40 (mkB S) i W hS (by omega) hi)
    rw [show (mkB S).data.toList = S from rfl] at HHA
    have HSU := hid (wantL_succ m)
    rw [hsel] at HSU
    have HLE := hid (wantL_le m)
    obtain ⟨F, hF⟩ : ∃ F, F = f.toNat := ⟨_, rfl⟩
    obtain rfl : f = (F : Int) := by omega
    rw [← hF] at HX
    have hF40 : F ≤ 40 := by omega
    obtain ⟨i0, hi, hz0, hz1, hz2⟩ := info_parts info_intB
    have HZE := hid (fun (e : m.on = []) => show ((m.on.length : Int) == 0) = true by rw [e]; rfl)
    have HZN := hid (fun (e : m.on ≠ []) => show ((m.on.length : Int) == 0) = false by
      rw [beq_eq_false_iff_ne]
      exact fun q => e (List.eq_nil_of_length_eq_zero (by omega)))
    clear h hX hva hfs hsel hS hF
    go_enter Tryz.func16, Tryz.ntmps16
    go_wp2_with fail
    refine name_worldA (p := fun W => Calls _ _ _ W _) (fun W1 hW => ?_)
    have A1x : Blk W1 w.heap.size #[.string m.old, .string m.new, .string m.name, .slice ta m.tr.length tc, .slice pa m.pe.length pc, .slice sa m.ws.length sc, .slice oa m.on.length oc] 27 := by
      rw [hW]
      apply Blk.row
      · repeat (first | with_reducible exact hW | (with_reducible apply Blk.newAt; (simp; done)) | with_reducible apply Blk.alloc | with_reducible apply Blk.drew | with_reducible apply Blk.drewN | with_reducible apply Blk.set | (with_reducible apply Blk.other; · first | (simp; done) | (simp; omega) | omega) | (with_reducible apply Blk.putObj; · first | (simp; done) | (simp; omega) | omega))
      · rfl
    have N1x : New w W1 := by
      rw [hW]
      repeat (first | with_reducible exact Mod.refl _ w | with_reducible refine Mod.alloc ?_ _ | with_reducible refine Mod.drew ?_ | with_reducible refine Mod.drewN ?_ _ | (with_reducible refine Mod.set ?_ _ _ (by first | exact .inl rfl | (right; omega) | (right; simp; done) | (right; simp; omega) | (left; omega) | (left; simp; done) | (left; simp; omega))) | (with_reducible refine Mod.putObj ?_ _ _ (by first | exact .inl rfl | (right; omega) | (right; simp; done) | (right; simp; omega) | (left; omega) | (left; simp; done) | (left; simp; omega))))
    have A1 := hid A1x; have N1 := hid N1x
    clear hW A1x N1x
    refine (HVA.out _ N1.out).mono ?_
    rintro e w2 ⟨rfl, n2⟩
    have A2 := hid (New.blk n2 A1.out); have N2 := hid (N1.out.trans n2)
    clear n2 A1 N1
    have xa : w2.cell? ⟨w.heap.size, 6, none⟩ = some (.slice oa m.on.length oc) := A2.out.cellv 6 rfl
    go_wp2_with fail
    refine (HFR.out _ N2.out).mono ?_
    rintro e w3 ⟨rfl, n3⟩
    simp only [frE]
    have A3 := hid (New.blk n3 A2.out); have N3 := hid (N2.out.trans n3)
    clear n3 xa A2 N2 HFR HVA
    go_wp2_with fail
    go_loopw [30, 6] (fun i o wr => ∃ (k : Nat) (v : Value), i = .int .i64 k ∧ v = o ∧ k ≤ F ∧ OwnC wr 3 w3.heap.size v (numV (wantL m k)) ∧ New w3 wr) (fun i _ _ => F - (intOf i).toNat)
    case atStart => exact ⟨0, _, rfl, rfl, by omega, OwnC.nil _ _ _, Mod.refl _ _⟩
    case round =>
      obtain ⟨k, v, rfl, rfl, hk, hO, hN⟩ := hrel
      have HO := hid hO; have HN := hid hN
      have A4 := hid (New.blk hN A3.out)
      have hwl := HLE.out k
      clear hO hN
      by_cases hlt : k < F
      · have hltI : (k : Int) < (F : Int) := by omega
        have HSC := HSU.out k
        have HK := hid (HHA.out k (by omega))
        have xa : wr.cell? ⟨w.heap.size, 6, none⟩ = some (.slice oa m.on.length oc) := A4.out.cellv 6 rfl
        obtain ⟨B, hB⟩ : ∃ B, B = bitL S k := ⟨_, rfl⟩
        rw [← hB] at HK HSC
        have HSC2 := hid HSC
        clear HSC hB
        obtain ⟨L, hL⟩ : ∃ L, L = numV (wantL m k) := ⟨_, rfl⟩
        have hLl : L.length ≤ 4096 := by rw [hL]; unfold numV; rw [List.length_map]; omega
        rw [← hL] at HO
        have HLL := hid hL
        clear hL
        cases B with
        | true =>
          have HSC := hid (show numV (wantL m (k + 1)) = L ++ [.int .i64 (k : Int)] by rw [HSC2.out, HLL.out]; unfold numV; simp)
          go_wp2_with fail
          refine (HK.out _).mono ?_
          rintro e w5 ⟨rfl, rfl⟩
          go_wp2_with (first | (at_builtin; refine wpList_append_own_at _ rfl _ _ 35 rfl w3.heap.size 3 i0 _ 1 8 Tryz.underlying35 hi hz0 hz1 hz2 rfl (by decide) v L.length L rfl ?ow ⟨wr.heap.size, 0, none⟩ 1 1 [.int .i64 (k : Int)] rfl rfl ?hn ?h1 ?h63 ?hby ?hba ?_) | fail)
          case ow => exact HO.out.new ((Mod.refl _ _).alloc _)
          case hn => exact fun j u hj => one_newC wr _ _ rfl j u hj
          case h1 => intro u hu; simp at hu; subst hu; rfl
          case h63 => unfold maxLen; omega
          case hby => omega
          case hba => have := HN.out.size; simp; omega
          intro o6 w6 r6 g6 _ _
          have O6 : Hid (OwnC w6 3 w3.heap.size o6 (L ++ [.int .i64 (k : Int)])) := hid (by
            unfold OwnC
            rw [List.length_append]
            exact r6)
          have N6 : Hid (New w3 w6) := hid (newGrown (HN.out.alloc _) g6 (fun j hj => by
            obtain ⟨_, _, -, hb, -⟩ := HO.out.form
            exact hb j hj))
          clear r6 g6
          go_wp2
          exact ⟨⟨k + 1, _, by simp, rfl, by omega, by rw [HSC.out]; exact O6.out, N6.out⟩, by simp [intOf]; omega⟩
        | false =>
          by_cases hz : m.on = []
          · have hzb := HZE.out hz
            have HSC := hid (show numV (wantL m (k + 1)) = L ++ [.int .i64 (k : Int)] by rw [HSC2.out, HLL.out, if_pos (by simp [hz])]; unfold numV; simp)
            clear hz
            go_wp2_with fail
            refine (HK.out _).mono ?_
            rintro e w5 ⟨rfl, rfl⟩
            go_wp2_with (first | (at_builtin; refine wpList_append_own_at _ rfl _ _ 35 rfl w3.heap.size 3 i0 _ 1 8 Tryz.underlying35 hi hz0 hz1 hz2 rfl (by decide) v L.length L rfl ?ow ⟨wr.heap.size, 0, none⟩ 1 1 [.int .i64 (k : Int)] rfl rfl ?hn ?h1 ?h63 ?hby ?hba ?_) | fail)
            case ow => exact HO.out.new ((Mod.refl _ _).alloc _)
            case hn => exact fun j u hj => one_newC wr _ _ rfl j u hj
            case h1 => intro u hu; simp at hu; subst hu; rfl
            case h63 => unfold maxLen; omega
            case hby => omega
            case hba => have := HN.out.size; simp; omega
            intro o6 w6 r6 g6 _ _
            have O6 : Hid (OwnC w6 3 w3.heap.size o6 (L ++ [.int .i64 (k : Int)])) := hid (by
              unfold OwnC
              rw [List.length_append]
              exact r6)
            have N6 : Hid (New w3 w6) := hid (newGrown (HN.out.alloc _) g6 (fun j hj => by
              obtain ⟨_, _, -, hb, -⟩ := HO.out.form
              exact hb j hj))
            clear r6 g6
            go_wp2
            exact ⟨⟨k + 1, _, by simp, rfl, by omega, by rw [HSC.out]; exact O6.out, N6.out⟩, by simp [intOf]; omega⟩
          · have hzb := HZN.out hz
            have HSC := hid (show numV (wantL m (k + 1)) = L by rw [HSC2.out, HLL.out, if_neg (by simp [hz])]; simp)
            clear hz
            go_wp2_with fail
            refine (HK.out _).mono ?_
            rintro e w5 ⟨rfl, rfl⟩
            go_wp2
            exact ⟨⟨k + 1, _, by simp, rfl, by omega, by rw [HSC.out]; exact HO.out, HN.out⟩, by simp [intOf]; omega⟩
      · obtain rfl : k = F := by omega
        obtain ⟨a5, c5, rfl, hnm, hac⟩ := HO.out.nums
        have HNM := hid hnm; have HAC := hid hac
        clear hnm hac
        go_wp2
        go_ret2
        exact ⟨by rw [HX.out]; exact ⟨_, c5, rfl, HNM.out, HAC.out⟩, N3.out.trans HN.out⟩
end Go.Proofs.YtbgmkplpolgebaaGreatDoor

namespace Go.Proofs.YtbgmkplpolgebaaGreatDoor
set_option linter.unusedSimpArgs false
set_option linter.unusedVariables false
open Go.RowKit Go.Shelf

theorem strE {s : ByteArray} (h : s.size = 0) : (s.toList == []) = true ∧ (s.toList != []) = false ∧ s.toList.isEmpty = true ∧ s.data.toList = [] := by
  have hl : s.data.toList.length = s.size := by rw [Array.length_toList]; rfl
  have e : s.data.toList = [] := List.eq_nil_of_length_eq_zero (by omega)
  have e1 : (s.toList == []) = true := by rw [beq_iff_eq, ByteArray.toList_eq]; exact e
  exact ⟨e1, by rw [bne, e1]; rfl, by rw [ByteArray.toList_eq, e]; rfl, e⟩
theorem strN {s : ByteArray} (h : ¬ s.size = 0) : (s.toList == []) = false ∧ (s.toList != []) = true ∧ s.toList.isEmpty = false ∧ s.data.toList ≠ [] := by
  have hl : s.data.toList.length = s.size := by rw [Array.length_toList]; rfl
  have e : s.data.toList ≠ [] := fun e => by rw [e] at hl; exact h hl.symm
  have e1 : (s.toList == []) = false := by rw [beq_eq_false_iff_ne, ByteArray.toList_eq]; exact e
  refine ⟨e1, by rw [bne, e1]; rfl, ?_, e⟩
  rw [ByteArray.toList_eq]
  cases hq : s.data.toList with
  | nil => exact absurd hq e
  | cons a b => rfl
theorem max_top {x y : ByteArray} (h : confJ x y = false) : Lib.maxS x y = topJ x y := by
  unfold Lib.maxS topJ
  by_cases hx : x.size = 0
  · obtain ⟨-, -, -, e⟩ := strE hx
    rw [if_pos hx, e]
    by_cases hy : y.size = 0
    · obtain ⟨-, -, -, e2⟩ := strE hy
      rw [e2, if_neg (by simp)]
      apply bytes_ext
      rw [e, e2]
    · obtain ⟨-, -, -, e2⟩ := strN hy
      rw [if_pos]
      cases hq : y.data.toList with
      | nil => exact absurd hq e2
      | cons a b => simp
  · rw [if_neg hx, if_neg]
    by_cases hy : y.size = 0
    · obtain ⟨-, -, -, e2⟩ := strE hy
      rw [e2]
      simp
    · have : x = y := by
        unfold confJ at h
        by_cases e : x = y
        · exact e
        · simp [hx, hy, e] at h
      rw [this]
      exact List.lt_irrefl _
set_option maxRecDepth 100000 in
set_option maxHeartbeats 4000000 in
theorem jtop_no (C : Nat) (x y : ByteArray) (w : World) (h : confJ x y = true) :
    Calls Tryz.prog 36 #[.string x, .string y, .pointer (some ⟨C, 0, none⟩)] w fun e w' => e = .panicked (toldM 10) ∧ w = w' := by
  unfold confJ at h
  rw [Bool.and_eq_true, Bool.and_eq_true, decide_eq_true_iff, decide_eq_true_iff, decide_eq_true_iff] at h
  obtain ⟨h1, h2, h3⟩ := h
  obtain ⟨x1, x2, x3, -⟩ := strN h1
  obtain ⟨y1, y2, y3, -⟩ := strN h2
  obtain ⟨z1, z2⟩ := neN h3
  clear h1 h2 h3
  go_enter Tryz.func36, Tryz.ntmps36
  go_wp2_with fail
  refine (need_no 10 _).mono ?_
  rintro e w2 ⟨rfl, rfl⟩
  go_wp2
  exact ⟨rfl, rfl, rfl⟩
set_option maxRecDepth 100000 in
set_option maxHeartbeats 4000000 in
theorem jtop_yes (C : Nat) (cm : Bool) (x y : ByteArray) (w : World) (hcf : confJ x y = false) (hb : Blk w C #[.bool cm] 4) :
    Calls Tryz.prog 36 #[.string x, .string y, .pointer (some ⟨C, 0, none⟩)] w fun e w' => e = .returned (.string (topJ x y)) ∧ Blk w' C #[.bool (cm || comJ x y)] 4 ∧ Mod (fun j => j = C) w w' := by
  have HB := hid hb
  clear hb
  by_cases h1 : x.size = 0
  · obtain ⟨x1, x2, x3, -⟩ := strE h1
    have hcj : comJ x y = false := by unfold comJ; simp [h1]
    clear h1
    have HJ := hid hcj
    have hmax : ∀ (ts : Array TypeId) (t : TypeId) (w : World), (Builtin.max_ ts t #[.string x, .string y]).run Tryz.prog w = .ok (.string (topJ x y)) w := fun ts t w => by rw [Lib.run_max_strs, max_top hcf]
    obtain ⟨Z, hZ⟩ : ∃ Z, Z = topJ x y := ⟨_, rfl⟩
    rw [← hZ] at hmax ⊢
    clear hcj hcf hZ
    cases cm
    all_goals
      have b0 := HB.out.cellv 0 rfl; have bl := HB.out.lt; have bf := HB.out.frz 0
      go_enter Tryz.func36, Tryz.ntmps36
      go_wp2_with fail
      refine (need_yes 10 _).mono ?_
      rintro e w2 ⟨rfl, rfl⟩
      go_wp2
      go_ret
      exact ⟨rfl, by rw [HJ.out]; first | exact (HB.out.set 0 (.bool true)).row rfl | exact (HB.out.set 0 (.bool false)).row rfl, (Mod.refl _ _).set _ _ (.inl rfl)⟩
  · obtain ⟨x1, x2, x3, -⟩ := strN h1
    by_cases h2 : y.size = 0
    · obtain ⟨y1, y2, y3, -⟩ := strE h2
      have h3 : ¬ x = y := fun e => h1 (by rw [e]; exact h2)
      obtain ⟨z1, z2⟩ := neN h3
      have hcj : comJ x y = false := by unfold comJ; simp [h3]
      clear h1 h2 h3
      have HJ := hid hcj
      have hmax : ∀ (ts : Array TypeId) (t : TypeId) (w : World), (Builtin.max_ ts t #[.string x, .string y]).run Tryz.prog w = .ok (.string (topJ x y)) w := fun ts t w => by rw [Lib.run_max_strs, max_top hcf]
      obtain ⟨Z, hZ⟩ : ∃ Z, Z = topJ x y := ⟨_, rfl⟩
      rw [← hZ] at hmax ⊢
      clear hcj hcf hZ
      cases cm
      all_goals
        have b0 := HB.out.cellv 0 rfl; have bl := HB.out.lt; have bf := HB.out.frz 0
        go_enter Tryz.func36, Tryz.ntmps36
        go_wp2_with fail
        refine (need_yes 10 _).mono ?_
        rintro e w2 ⟨rfl, rfl⟩
        go_wp2
        go_ret
        exact ⟨rfl, by rw [HJ.out]; first | exact (HB.out.set 0 (.bool true)).row rfl | exact (HB.out.set 0 (.bool false)).row rfl, (Mod.refl _ _).set _ _ (.inl rfl)⟩
    · obtain ⟨y1, y2, y3, -⟩ := strN h2
      have h3 : x = y := by
        unfold confJ at hcf
        by_cases e : x = y
        · exact e
        · simp [h1, h2, e] at hcf
      obtain ⟨z1, z2⟩ := neS h3
      have hcj : comJ x y = true := by unfold comJ; rw [Bool.and_eq_true, decide_eq_true_iff, decide_eq_true_iff]; exact ⟨h1, h3⟩
      clear h1 h2 h3
      have HJ := hid hcj
      have hmax : ∀ (ts : Array TypeId) (t : TypeId) (w : World), (Builtin.max_ ts t #[.string x, .string y]).run Tryz.prog w = .ok (.string (topJ x y)) w := fun ts t w => by rw [Lib.run_max_strs, max_top hcf]
      obtain ⟨Z, hZ⟩ : ∃ Z, Z = topJ x y := ⟨_, rfl⟩
      rw [← hZ] at hmax ⊢
      clear hcj hcf hZ
      cases cm
      all_goals
        have b0 := HB.out.cellv 0 rfl; have bl := HB.out.lt; have bf := HB.out.frz 0
        go_enter Tryz.func36, Tryz.ntmps36
        go_wp2_with fail
        refine (need_yes 10 _).mono ?_
        rintro e w2 ⟨rfl, rfl⟩
        go_wp2
        go_ret
        exact ⟨rfl, by rw [HJ.out]; first | exact (HB.out.set 0 (.bool true)).row rfl | exact (HB.out.set 0 (.bool false)).row rfl, (Mod.refl _ _).set _ _ (.inl rfl)⟩
end Go.Proofs.YtbgmkplpolgebaaGreatDoor
