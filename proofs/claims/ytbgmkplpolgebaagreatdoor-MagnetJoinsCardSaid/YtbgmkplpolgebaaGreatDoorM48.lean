/-
  Several texts in one, in their build order. Two magnets put together (the reference: Join). Conditions: both magnets lie as told. The walk of Light (magnets): it answers, whatever it is. Condition: the magnet lies as told.
-/
import Derived.Test.YtbgmkplpolgebaaGreatDoorM47
import Derived.Test.YtbgmkplpolgebaaGreatDoorM29
import Derived.Test.YtbgmkplpolgebaaGreatDoorM2
namespace Go.Proofs.YtbgmkplpolgebaaGreatDoor
set_option linter.unusedSimpArgs false
set_option linter.unusedVariables false
open Go.RowKit Go.Shelf

theorem top4 (x y : ByteArray) : (comJ x y = false ∧ confJ x y = false ∧ (x.toList == []) = true ∧ (x.toList != []) = false ∧ x.toList.isEmpty = true) ∨
    (comJ x y = false ∧ confJ x y = false ∧ (x.toList == []) = false ∧ (x.toList != []) = true ∧ x.toList.isEmpty = false ∧ (y.toList == []) = true ∧ (y.toList != []) = false ∧ y.toList.isEmpty = true ∧ (x.toList == y.toList) = false ∧ (x.toList != y.toList) = true) ∨
    (comJ x y = true ∧ confJ x y = false ∧ (x.toList == []) = false ∧ (x.toList != []) = true ∧ x.toList.isEmpty = false ∧ (y.toList == []) = false ∧ (y.toList != []) = true ∧ y.toList.isEmpty = false ∧ (x.toList == y.toList) = true ∧ (x.toList != y.toList) = false) ∨
    (comJ x y = false ∧ confJ x y = true ∧ (x.toList == []) = false ∧ (x.toList != []) = true ∧ x.toList.isEmpty = false ∧ (y.toList == []) = false ∧ (y.toList != []) = true ∧ y.toList.isEmpty = false ∧ (x.toList == y.toList) = false ∧ (x.toList != y.toList) = true) := by
  unfold comJ confJ
  by_cases h1 : x.size = 0
  · obtain ⟨x1, x2, x3, -⟩ := strE h1
    left
    exact ⟨by rw [decide_eq_false (fun q => q h1)]; rfl, by rw [decide_eq_false (fun q => q h1)]; rfl, x1, x2, x3⟩
  · obtain ⟨x1, x2, x3, -⟩ := strN h1
    right
    by_cases h2 : y.size = 0
    · obtain ⟨y1, y2, y3, -⟩ := strE h2
      obtain ⟨z1, z2⟩ := neN (a := x) (b := y) (fun e => h1 (by rw [e]; exact h2))
      left
      exact ⟨by rw [decide_eq_false (p := x = y) (fun e => h1 (by rw [e]; exact h2)), Bool.and_false], by rw [decide_eq_false (p := y.size ≠ 0) (fun q => q h2), Bool.false_and, Bool.and_false], x1, x2, x3, y1, y2, y3, z1, z2⟩
    · obtain ⟨y1, y2, y3, -⟩ := strN h2
      right
      by_cases h3 : x = y
      · obtain ⟨z1, z2⟩ := neS h3
        left
        exact ⟨by rw [decide_eq_true h3, decide_eq_true (p := x.size ≠ 0) h1]; rfl, by rw [decide_eq_false (p := x ≠ y) (fun q => q h3), Bool.and_false, Bool.and_false], x1, x2, x3, y1, y2, y3, z1, z2⟩
      · obtain ⟨z1, z2⟩ := neN h3
        right
        exact ⟨by rw [decide_eq_false h3, Bool.and_false], by rw [decide_eq_true (p := x.size ≠ 0) h1, decide_eq_true (p := y.size ≠ 0) h2, decide_eq_true (p := x ≠ y) h3]; rfl, x1, x2, x3, y1, y2, y3, z1, z2⟩
theorem top3 (x y : ByteArray) : (comJ x y = true ∧ (x.toList == []) = false ∧ (x.toList != []) = true ∧ x.toList.isEmpty = false ∧ (x.toList == y.toList) = true ∧ (x.toList != y.toList) = false) ∨
    (comJ x y = false ∧ (x.toList == []) = true ∧ (x.toList != []) = false ∧ x.toList.isEmpty = true) ∨
    (comJ x y = false ∧ (x.toList == []) = false ∧ (x.toList != []) = true ∧ x.toList.isEmpty = false ∧ (x.toList == y.toList) = false ∧ (x.toList != y.toList) = true) := by
  rcases top4 x y with ⟨c1, d1, x1, x2, x3⟩ | ⟨c1, d1, x1, x2, x3, y1, y2, y3, z1, z2⟩ | ⟨c1, d1, x1, x2, x3, y1, y2, y3, z1, z2⟩ | ⟨c1, d1, x1, x2, x3, y1, y2, y3, z1, z2⟩
  · exact .inr (.inl ⟨c1, x1, x2, x3⟩)
  · exact .inr (.inr ⟨c1, x1, x2, x3, z1, z2⟩)
  · exact .inl ⟨c1, x1, x2, x3, z1, z2⟩
  · exact .inr (.inr ⟨c1, x1, x2, x3, z1, z2⟩)
set_option maxRecDepth 100000 in
set_option maxHeartbeats 16000000 in
theorem rJoin09_any (a b : MgV) (p q : MgP) (w : World) (h : MagAt w a p) (k : MagAt w b q) (hp : Tidy p) (hq : Tidy q) :
    Calls Tryz.prog 14 #[magVal a p, magVal b q] w fun e w' => joinQ (joinP a b) e w' ∧ New w w' := by
  have HVA := hid (fun W (n : New w W) => rValid_any a p W (h.new n))
  have HVB := hid (fun W (n : New w W) => rValid_any b q W (k.new n))
  obtain ⟨ta, tc, pa, pc, sa, sc, oa, oc⟩ := p
  obtain ⟨tb, td, pb, pd, sb, sd, ob, od⟩ := q
  simp only [magVal, magRow] at HVA HVB ⊢
  obtain ⟨X, hX⟩ : ∃ X, X = joinP a b := ⟨_, rfl⟩
  have HXX := hid hX
  rw [← hX]
  clear hX
  cases hva : validMg a with
  | false =>
    have HX : Hid (X = .error 1) := hid (by rw [HXX.out]; unfold joinP; rw [hva]; rfl)
    rw [hva] at HVA
    clear h k hp hq hva
    go_enter Tryz.func14, Tryz.ntmps14
    go_wp2_with fail
    refine name_worldA (p := fun W => Calls _ _ _ W _) (fun W1 hW1 => ?_)
    have A1x : Blk W1 w.heap.size #[.string a.old, .string a.new, .string a.name, .slice ta a.tr.length tc, .slice pa a.pe.length pc, .slice sa a.ws.length sc, .slice oa a.on.length oc] 27 := by
      rw [hW1]
      apply Blk.row
      · repeat (first | with_reducible exact hW1 | (with_reducible apply Blk.newAt; (simp; done)) | with_reducible apply Blk.alloc | with_reducible apply Blk.drew | with_reducible apply Blk.drewN | with_reducible apply Blk.set | (with_reducible apply Blk.other; · first | (simp; done) | (simp; omega) | omega) | (with_reducible apply Blk.putObj; · first | (simp; done) | (simp; omega) | omega))
      · rfl
    have B1x : Blk W1 (w.heap.size + 1) #[.string b.old, .string b.new, .string b.name, .slice tb b.tr.length td, .slice pb b.pe.length pd, .slice sb b.ws.length sd, .slice ob b.on.length od] 27 := by
      rw [hW1]
      apply Blk.row
      · repeat (first | with_reducible exact hW1 | (with_reducible apply Blk.newAt; (simp; done)) | with_reducible apply Blk.alloc | with_reducible apply Blk.drew | with_reducible apply Blk.drewN | with_reducible apply Blk.set | (with_reducible apply Blk.other; · first | (simp; done) | (simp; omega) | omega) | (with_reducible apply Blk.putObj; · first | (simp; done) | (simp; omega) | omega))
      · rfl
    have M1x : Blk W1 (w.heap.size + 1 + 1) zeroMg 27 := by
      rw [hW1]
      apply Blk.row
      · repeat (first | with_reducible exact hW1 | (with_reducible apply Blk.newAt; (simp; done)) | with_reducible apply Blk.alloc | with_reducible apply Blk.drew | with_reducible apply Blk.drewN | with_reducible apply Blk.set | (with_reducible apply Blk.other; · first | (simp; done) | (simp; omega) | omega) | (with_reducible apply Blk.putObj; · first | (simp; done) | (simp; omega) | omega))
      · rfl
    have N1x : New w W1 := by
      rw [hW1]
      repeat (first | with_reducible exact Mod.refl _ w | with_reducible refine Mod.alloc ?_ _ | with_reducible refine Mod.drew ?_ | with_reducible refine Mod.drewN ?_ _ | (with_reducible refine Mod.set ?_ _ _ (by first | exact .inl rfl | (right; omega) | (right; simp; done) | (right; simp; omega) | (left; omega) | (left; simp; done) | (left; simp; omega))) | (with_reducible refine Mod.putObj ?_ _ _ (by first | exact .inl rfl | (right; omega) | (right; simp; done) | (right; simp; omega) | (left; omega) | (left; simp; done) | (left; simp; omega))))
    have A1 := hid A1x; have B1 := hid B1x; have M1 := hid M1x; have N1 := hid N1x
    clear hW1 A1x B1x M1x N1x
    refine (HVA.out _ N1.out).mono ?_
    rintro e w2 ⟨rfl, n2⟩
    have A2 := hid (New.blk n2 A1.out); have B2 := hid (New.blk n2 B1.out); have M2 := hid (New.blk n2 M1.out); have N2 := hid (N1.out.trans n2)
    clear n2
    have m0 := M2.out.cellv 0 rfl; have m1 := M2.out.cellv 1 rfl; have m2 := M2.out.cellv 2 rfl; have m3 := M2.out.cellv 3 rfl
    have m4 := M2.out.cellv 4 rfl; have m5 := M2.out.cellv 5 rfl; have m6 := M2.out.cellv 6 rfl
    have ml := M2.out.lt
    have mf := M2.out.frz
    go_wp2
    refine bodyPost_ret (v := .tuple #[mag0V, .int .i64 1]) ?_ rfl ⟨by rw [HX.out]; rfl, ?_⟩
    · refine rj_results _ _ (w.heap.size + 1 + 1) _ _ _ _ _ _ _ _ ?_ rfl rfl
      apply Blk.row
      · repeat (first | with_reducible exact M2.out | (with_reducible apply Blk.newAt; (simp; done)) | with_reducible apply Blk.alloc | with_reducible apply Blk.drew | with_reducible apply Blk.drewN | with_reducible apply Blk.set | (with_reducible apply Blk.other; · first | (simp; done) | (simp; omega) | omega) | (with_reducible apply Blk.putObj; · first | (simp; done) | (simp; omega) | omega))
      · rfl
    · have q := N2.out
      repeat (first | with_reducible exact q | with_reducible refine Mod.alloc ?_ _ | with_reducible refine Mod.drew ?_ | with_reducible refine Mod.drewN ?_ _ | (with_reducible refine Mod.set ?_ _ _ (by first | exact .inl rfl | (right; omega) | (right; simp; done) | (right; simp; omega) | (left; omega) | (left; simp; done) | (left; simp; omega))) | (with_reducible refine Mod.putObj ?_ _ _ (by first | exact .inl rfl | (right; omega) | (right; simp; done) | (right; simp; omega) | (left; omega) | (left; simp; done) | (left; simp; omega))))
      all_goals exact Mod.refl _ _
  | true =>
    rw [hva] at HVA
    cases hvb : validMg b with
    | false =>
      have HX : Hid (X = .error 1) := hid (by rw [HXX.out]; unfold joinP; rw [hva, hvb]; rfl)
      rw [hvb] at HVB
      clear h k hp hq hva hvb
      go_enter Tryz.func14, Tryz.ntmps14
      go_wp2_with fail
      refine name_worldA (p := fun W => Calls _ _ _ W _) (fun W1 hW1 => ?_)
      have A1x : Blk W1 w.heap.size #[.string a.old, .string a.new, .string a.name, .slice ta a.tr.length tc, .slice pa a.pe.length pc, .slice sa a.ws.length sc, .slice oa a.on.length oc] 27 := by
        rw [hW1]
        apply Blk.row
        · repeat (first | with_reducible exact hW1 | (with_reducible apply Blk.newAt; (simp; done)) | with_reducible apply Blk.alloc | with_reducible apply Blk.drew | with_reducible apply Blk.drewN | with_reducible apply Blk.set | (with_reducible apply Blk.other; · first | (simp; done) | (simp; omega) | omega) | (with_reducible apply Blk.putObj; · first | (simp; done) | (simp; omega) | omega))
        · rfl
      have B1x : Blk W1 (w.heap.size + 1) #[.string b.old, .string b.new, .string b.name, .slice tb b.tr.length td, .slice pb b.pe.length pd, .slice sb b.ws.length sd, .slice ob b.on.length od] 27 := by
        rw [hW1]
        apply Blk.row
        · repeat (first | with_reducible exact hW1 | (with_reducible apply Blk.newAt; (simp; done)) | with_reducible apply Blk.alloc | with_reducible apply Blk.drew | with_reducible apply Blk.drewN | with_reducible apply Blk.set | (with_reducible apply Blk.other; · first | (simp; done) | (simp; omega) | omega) | (with_reducible apply Blk.putObj; · first | (simp; done) | (simp; omega) | omega))
        · rfl
      have M1x : Blk W1 (w.heap.size + 1 + 1) zeroMg 27 := by
        rw [hW1]
        apply Blk.row
        · repeat (first | with_reducible exact hW1 | (with_reducible apply Blk.newAt; (simp; done)) | with_reducible apply Blk.alloc | with_reducible apply Blk.drew | with_reducible apply Blk.drewN | with_reducible apply Blk.set | (with_reducible apply Blk.other; · first | (simp; done) | (simp; omega) | omega) | (with_reducible apply Blk.putObj; · first | (simp; done) | (simp; omega) | omega))
        · rfl
      have N1x : New w W1 := by
        rw [hW1]
        repeat (first | with_reducible exact Mod.refl _ w | with_reducible refine Mod.alloc ?_ _ | with_reducible refine Mod.drew ?_ | with_reducible refine Mod.drewN ?_ _ | (with_reducible refine Mod.set ?_ _ _ (by first | exact .inl rfl | (right; omega) | (right; simp; done) | (right; simp; omega) | (left; omega) | (left; simp; done) | (left; simp; omega))) | (with_reducible refine Mod.putObj ?_ _ _ (by first | exact .inl rfl | (right; omega) | (right; simp; done) | (right; simp; omega) | (left; omega) | (left; simp; done) | (left; simp; omega))))
      have A1 := hid A1x; have B1 := hid B1x; have M1 := hid M1x; have N1 := hid N1x
      clear hW1 A1x B1x M1x N1x
      refine (HVA.out _ N1.out).mono ?_
      rintro e w2 ⟨rfl, n2⟩
      have A2 := hid (New.blk n2 A1.out); have B2 := hid (New.blk n2 B1.out); have M2 := hid (New.blk n2 M1.out); have N2 := hid (N1.out.trans n2)
      clear n2
      have b0 : w2.cell? ⟨w.heap.size + 1, 0, none⟩ = some (.string b.old) := B2.out.cellv 0 rfl
      have b1 : w2.cell? ⟨w.heap.size + 1, 1, none⟩ = some (.string b.new) := B2.out.cellv 1 rfl
      have b2 : w2.cell? ⟨w.heap.size + 1, 2, none⟩ = some (.string b.name) := B2.out.cellv 2 rfl
      have b3 : w2.cell? ⟨w.heap.size + 1, 3, none⟩ = some (.slice tb b.tr.length td) := B2.out.cellv 3 rfl
      have b4 : w2.cell? ⟨w.heap.size + 1, 4, none⟩ = some (.slice pb b.pe.length pd) := B2.out.cellv 4 rfl
      have b5 : w2.cell? ⟨w.heap.size + 1, 5, none⟩ = some (.slice sb b.ws.length sd) := B2.out.cellv 5 rfl
      have b6 : w2.cell? ⟨w.heap.size + 1, 6, none⟩ = some (.slice ob b.on.length od) := B2.out.cellv 6 rfl
      go_wp2_with fail
      refine (HVB.out _ N2.out).mono ?_
      rintro e w3 ⟨rfl, n3⟩
      have A3 := hid (New.blk n3 A2.out); have B3 := hid (New.blk n3 B2.out); have M3 := hid (New.blk n3 M2.out); have N3 := hid (N2.out.trans n3)
      clear n3 b0 b1 b2 b3 b4 b5 b6
      have m0 := M3.out.cellv 0 rfl; have m1 := M3.out.cellv 1 rfl; have m2 := M3.out.cellv 2 rfl; have m3 := M3.out.cellv 3 rfl
      have m4 := M3.out.cellv 4 rfl; have m5 := M3.out.cellv 5 rfl; have m6 := M3.out.cellv 6 rfl
      have ml := M3.out.lt
      have mf := M3.out.frz
      go_wp2
      refine bodyPost_ret (v := .tuple #[mag0V, .int .i64 1]) ?_ rfl ⟨by rw [HX.out]; rfl, ?_⟩
      · refine rj_results _ _ (w.heap.size + 1 + 1) _ _ _ _ _ _ _ _ ?_ rfl rfl
        apply Blk.row
        · repeat (first | with_reducible exact M3.out | (with_reducible apply Blk.newAt; (simp; done)) | with_reducible apply Blk.alloc | with_reducible apply Blk.drew | with_reducible apply Blk.drewN | with_reducible apply Blk.set | (with_reducible apply Blk.other; · first | (simp; done) | (simp; omega) | omega) | (with_reducible apply Blk.putObj; · first | (simp; done) | (simp; omega) | omega))
        · rfl
      · have q := N3.out
        repeat (first | with_reducible exact q | with_reducible refine Mod.alloc ?_ _ | with_reducible refine Mod.drew ?_ | with_reducible refine Mod.drewN ?_ _ | (with_reducible refine Mod.set ?_ _ _ (by first | exact .inl rfl | (right; omega) | (right; simp; done) | (right; simp; omega) | (left; omega) | (left; simp; done) | (left; simp; omega))) | (with_reducible refine Mod.putObj ?_ _ _ (by first | exact .inl rfl | (right; omega) | (right; simp; done) | (right; simp; omega) | (left; omega) | (left; simp; done) | (left; simp; omega))))
        all_goals exact Mod.refl _ _
    | true =>
      rw [hvb] at HVB
      have hoka := validMg_iff.1 hva
      have hokb := validMg_iff.1 hvb
      have HX10 := hid (fun (e : (confJ a.old b.old || confJ a.new b.new || !(comJ a.old b.old || comJ a.new b.new)) = true) => show X = .error 10 by rw [HXX.out]; unfold joinP; rw [hva, hvb, if_neg (by decide), if_pos e])
      have HXGO := hid (fun (e : (confJ a.old b.old || confJ a.new b.new || !(comJ a.old b.old || comJ a.new b.new)) = false) => show X = (if 10 < (joinV a b).tr.length ∨ 10 < (joinV a b).ws.length ∨ 20 < (joinV a b).pe.length then .error 4 else .ok (joinV a b)) by rw [HXX.out]; unfold joinP; rw [hva, hvb, if_neg (by decide), if_neg (by rw [e]; decide)])
      clear hva hvb
      go_enter Tryz.func14, Tryz.ntmps14
      go_wp2_with fail
      refine name_worldA (p := fun W => Calls _ _ _ W _) (fun W1 hW1 => ?_)
      have A1x : Blk W1 w.heap.size #[.string a.old, .string a.new, .string a.name, .slice ta a.tr.length tc, .slice pa a.pe.length pc, .slice sa a.ws.length sc, .slice oa a.on.length oc] 27 := by
        rw [hW1]
        apply Blk.row
        · repeat (first | with_reducible exact hW1 | (with_reducible apply Blk.newAt; (simp; done)) | with_reducible apply Blk.alloc | with_reducible apply Blk.drew | with_reducible apply Blk.drewN | with_reducible apply Blk.set | (with_reducible apply Blk.other; · first | (simp; done) | (simp; omega) | omega) | (with_reducible apply Blk.putObj; · first | (simp; done) | (simp; omega) | omega))
        · rfl
      have B1x : Blk W1 (w.heap.size + 1) #[.string b.old, .string b.new, .string b.name, .slice tb b.tr.length td, .slice pb b.pe.length pd, .slice sb b.ws.length sd, .slice ob b.on.length od] 27 := by
        rw [hW1]
        apply Blk.row
        · repeat (first | with_reducible exact hW1 | (with_reducible apply Blk.newAt; (simp; done)) | with_reducible apply Blk.alloc | with_reducible apply Blk.drew | with_reducible apply Blk.drewN | with_reducible apply Blk.set | (with_reducible apply Blk.other; · first | (simp; done) | (simp; omega) | omega) | (with_reducible apply Blk.putObj; · first | (simp; done) | (simp; omega) | omega))
        · rfl
      have M1x : Blk W1 (w.heap.size + 1 + 1) zeroMg 27 := by
        rw [hW1]
        apply Blk.row
        · repeat (first | with_reducible exact hW1 | (with_reducible apply Blk.newAt; (simp; done)) | with_reducible apply Blk.alloc | with_reducible apply Blk.drew | with_reducible apply Blk.drewN | with_reducible apply Blk.set | (with_reducible apply Blk.other; · first | (simp; done) | (simp; omega) | omega) | (with_reducible apply Blk.putObj; · first | (simp; done) | (simp; omega) | omega))
        · rfl
      have N1x : New w W1 := by
        rw [hW1]
        repeat (first | with_reducible exact Mod.refl _ w | with_reducible refine Mod.alloc ?_ _ | with_reducible refine Mod.drew ?_ | with_reducible refine Mod.drewN ?_ _ | (with_reducible refine Mod.set ?_ _ _ (by first | exact .inl rfl | (right; omega) | (right; simp; done) | (right; simp; omega) | (left; omega) | (left; simp; done) | (left; simp; omega))) | (with_reducible refine Mod.putObj ?_ _ _ (by first | exact .inl rfl | (right; omega) | (right; simp; done) | (right; simp; omega) | (left; omega) | (left; simp; done) | (left; simp; omega))))
      have A1 := hid A1x; have B1 := hid B1x; have M1 := hid M1x; have N1 := hid N1x
      clear hW1 A1x B1x M1x N1x
      refine (HVA.out _ N1.out).mono ?_
      rintro e w2 ⟨rfl, n2⟩
      have A2 := hid (New.blk n2 A1.out); have B2 := hid (New.blk n2 B1.out); have M2 := hid (New.blk n2 M1.out); have N2 := hid (N1.out.trans n2)
      clear n2
      have b0 : w2.cell? ⟨w.heap.size + 1, 0, none⟩ = some (.string b.old) := B2.out.cellv 0 rfl
      have b1 : w2.cell? ⟨w.heap.size + 1, 1, none⟩ = some (.string b.new) := B2.out.cellv 1 rfl
      have b2 : w2.cell? ⟨w.heap.size + 1, 2, none⟩ = some (.string b.name) := B2.out.cellv 2 rfl
      have b3 : w2.cell? ⟨w.heap.size + 1, 3, none⟩ = some (.slice tb b.tr.length td) := B2.out.cellv 3 rfl
      have b4 : w2.cell? ⟨w.heap.size + 1, 4, none⟩ = some (.slice pb b.pe.length pd) := B2.out.cellv 4 rfl
      have b5 : w2.cell? ⟨w.heap.size + 1, 5, none⟩ = some (.slice sb b.ws.length sd) := B2.out.cellv 5 rfl
      have b6 : w2.cell? ⟨w.heap.size + 1, 6, none⟩ = some (.slice ob b.on.length od) := B2.out.cellv 6 rfl
      go_wp2_with fail
      refine (HVB.out _ N2.out).mono ?_
      rintro e w3 ⟨rfl, n3⟩
      have A3 := hid (New.blk n3 A2.out); have B3 := hid (New.blk n3 B2.out); have M3 := hid (New.blk n3 M2.out); have N3 := hid (N2.out.trans n3)
      clear n3 b0 b1 b2 b3 b4 b5 b6
      go_upto_region 3 with fail
      have x0 : w3.cell? ⟨w.heap.size, 0, none⟩ = some (.string a.old) := A3.out.cellv 0 rfl
      have x1 : w3.cell? ⟨w.heap.size, 1, none⟩ = some (.string a.new) := A3.out.cellv 1 rfl
      have y0 : w3.cell? ⟨w.heap.size + 1, 0, none⟩ = some (.string b.old) := B3.out.cellv 0 rfl
      have y1 : w3.cell? ⟨w.heap.size + 1, 1, none⟩ = some (.string b.new) := B3.out.cellv 1 rfl
      obtain ⟨cm, hcm⟩ : ∃ cm, cm = (comJ a.old b.old || comJ a.new b.new) := ⟨_, rfl⟩
      obtain ⟨cf, hcf⟩ : ∃ cf, cf = (confJ a.old b.old || confJ a.new b.new) := ⟨_, rfl⟩
      rw [← hcm, ← hcf] at HX10 HXGO
      have HCM := hid hcm; have HCF := hid hcf
      clear hcm hcf
      go_cut [6] (fun s6 wx => s6 = .bool cm ∧ w3 = wx)
      case first =>
        rcases top3 a.old b.old with ⟨c1, x1, x2, x3, z1, z2⟩ | ⟨c1, x1, x2, x3⟩ | ⟨c1, x1, x2, x3, z1, z2⟩
        · have HCV := HCM
          rw [c1, Bool.true_or] at HCV
          clear c1
          as_aux_lemma =>
            go_wp2
            go_meet
            exact ⟨by rw [HCV.out] <;> rfl, rfl⟩
        all_goals
          rcases top3 a.new b.new with ⟨c2, u1, u2, u3, t1, t2⟩ | ⟨c2, u1, u2, u3⟩ | ⟨c2, u1, u2, u3, t1, t2⟩
          all_goals
            have HCV := HCM
            rw [c1, c2] at HCV
            clear c1 c2
            as_aux_lemma =>
              go_wp2
              go_meet
              exact ⟨by rw [HCV.out] <;> rfl, rfl⟩
      case rest =>
        obtain ⟨rfl, rfl⟩ := hcut
        cases cm with
        | false =>
          have HX := hid (HX10.out (by rw [Bool.not_false, Bool.or_true]))
          clear x0 x1 y0 y1
          have m0 := M3.out.cellv 0 rfl; have m1 := M3.out.cellv 1 rfl; have m2 := M3.out.cellv 2 rfl; have m3 := M3.out.cellv 3 rfl
          have m4 := M3.out.cellv 4 rfl; have m5 := M3.out.cellv 5 rfl; have m6 := M3.out.cellv 6 rfl
          have ml := M3.out.lt
          have mf := M3.out.frz
          go_wp2
          refine bodyPost_ret (v := .tuple #[mag0V, .int .i64 10]) ?_ rfl ⟨by rw [HX.out]; rfl, ?_⟩
          · refine rj_results _ _ (w.heap.size + 1 + 1) _ _ _ _ _ _ _ _ ?_ rfl rfl
            apply Blk.row
            · repeat (first | with_reducible exact M3.out | (with_reducible apply Blk.newAt; (simp; done)) | with_reducible apply Blk.alloc | with_reducible apply Blk.drew | with_reducible apply Blk.drewN | with_reducible apply Blk.set | (with_reducible apply Blk.other; · first | (simp; done) | (simp; omega) | omega) | (with_reducible apply Blk.putObj; · first | (simp; done) | (simp; omega) | omega))
            · rfl
          · have q := N3.out
            repeat (first | with_reducible exact q | with_reducible refine Mod.alloc ?_ _ | with_reducible refine Mod.drew ?_ | with_reducible refine Mod.drewN ?_ _ | (with_reducible refine Mod.set ?_ _ _ (by first | exact .inl rfl | (right; omega) | (right; simp; done) | (right; simp; omega) | (left; omega) | (left; simp; done) | (left; simp; omega))) | (with_reducible refine Mod.putObj ?_ _ _ (by first | exact .inl rfl | (right; omega) | (right; simp; done) | (right; simp; omega) | (left; omega) | (left; simp; done) | (left; simp; omega))))
            all_goals exact Mod.refl _ _
        | true =>
          go_upto_region 4 with fail
          go_cut [85] (fun s85 wx => s85 = .bool cf ∧ w3 = wx)
          case first =>
            rcases top4 a.old b.old with ⟨c1, d1, x1, x2, x3⟩ | ⟨c1, d1, x1, x2, x3, y1, y2, y3, z1, z2⟩ | ⟨c1, d1, x1, x2, x3, y1, y2, y3, z1, z2⟩ | ⟨c1, d1, x1, x2, x3, y1, y2, y3, z1, z2⟩
            rotate_right
            · have HCV := HCF
              rw [d1, Bool.true_or] at HCV
              clear c1 d1
              as_aux_lemma =>
                go_wp2
                go_meet
                exact ⟨by rw [HCV.out] <;> rfl, rfl⟩
            all_goals
              rcases top4 a.new b.new with ⟨c2, d2, u1, u2, u3⟩ | ⟨c2, d2, u1, u2, u3, v1, v2, v3, t1, t2⟩ | ⟨c2, d2, u1, u2, u3, v1, v2, v3, t1, t2⟩ | ⟨c2, d2, u1, u2, u3, v1, v2, v3, t1, t2⟩
              all_goals
                have HCV := HCF
                rw [d1, d2] at HCV
                clear c1 c2 d1 d2
                as_aux_lemma =>
                  go_wp2
                  go_meet
                  exact ⟨by rw [HCV.out] <;> rfl, rfl⟩
          case rest =>
            obtain ⟨rfl, rfl⟩ := hcut
            clear x0 x1 y0 y1
            cases cf with
            | true =>
              have HX := hid (HX10.out (by rfl))
              have m0 := M3.out.cellv 0 rfl; have m1 := M3.out.cellv 1 rfl; have m2 := M3.out.cellv 2 rfl; have m3 := M3.out.cellv 3 rfl
              have m4 := M3.out.cellv 4 rfl; have m5 := M3.out.cellv 5 rfl; have m6 := M3.out.cellv 6 rfl
              have ml := M3.out.lt
              have mf := M3.out.frz
              go_wp2
              refine bodyPost_ret (v := .tuple #[mag0V, .int .i64 10]) ?_ rfl ⟨by rw [HX.out]; rfl, ?_⟩
              · refine rj_results _ _ (w.heap.size + 1 + 1) _ _ _ _ _ _ _ _ ?_ rfl rfl
                apply Blk.row
                · repeat (first | with_reducible exact M3.out | (with_reducible apply Blk.newAt; (simp; done)) | with_reducible apply Blk.alloc | with_reducible apply Blk.drew | with_reducible apply Blk.drewN | with_reducible apply Blk.set | (with_reducible apply Blk.other; · first | (simp; done) | (simp; omega) | omega) | (with_reducible apply Blk.putObj; · first | (simp; done) | (simp; omega) | omega))
                · rfl
              · have q := N3.out
                repeat (first | with_reducible exact q | with_reducible refine Mod.alloc ?_ _ | with_reducible refine Mod.drew ?_ | with_reducible refine Mod.drewN ?_ _ | (with_reducible refine Mod.set ?_ _ _ (by first | exact .inl rfl | (right; omega) | (right; simp; done) | (right; simp; omega) | (left; omega) | (left; simp; done) | (left; simp; omega))) | (with_reducible refine Mod.putObj ?_ _ _ (by first | exact .inl rfl | (right; omega) | (right; simp; done) | (right; simp; omega) | (left; omega) | (left; simp; done) | (left; simp; omega))))
                all_goals exact Mod.refl _ _
            | false =>
              have HXG := hid (HXGO.out (by rfl))
              go_upto_if 85 with fail
              go_cut [5] (fun s5 wx => s5 = .int .i64 0 ∧ w3 = wx)
              case first =>
                go_wp2
                go_meet
                exact ⟨rfl, rfl⟩
              case rest =>
                obtain ⟨rfl, rfl⟩ := hcut
                go_step
                exact jtailS a b ⟨ta, tc, pa, pc, sa, sc, oa, oc⟩ ⟨tb, td, pb, pd, sb, sd, ob, od⟩ w w3 X (joinV a b) h k hp hq hoka hokb rfl HXG.out A3.out B3.out M3.out N3.out _ _ _ _ _ _ _ _ _ _ _ _ _ _ _ _ _ _ _ _ _ _ _ _ _ _ _ _ _ _ _ _ _ _ _ _ _ _ _ _ _ _ _ _ _ _ _ _ _ _ _ _ _ _ _ _ _ _ _ _ _ _ _ _ _ _ _ _ _ _ _ _ _ _ _ _ _ _ _ _ _ _ _ _ _ _ _ _ _ _ _ _ _ _ _ _ _ _ _ _ _ _ _ _ _ _ _ _ _ _ _ _ _ _ _ _ _ _ _ _ _ _ _ _ _ _ _ _ _ _ _ _ _ _ _ _ _ _ _ _ _ _ _ _ _ _ _ _ _ _ _ _ _ _ _ _ _ _ _ _ _ _ _ _ _ _ _ _ _ _ _ _ _ _ _ _ _ _ _ _ _ _ _ _ _ _ _ _ _ _ _
end Go.Proofs.YtbgmkplpolgebaaGreatDoor

namespace Go.Proofs.YtbgmkplpolgebaaGreatDoor
set_option linter.unusedSimpArgs false
set_option linter.unusedVariables false
open Go.RowKit Go.Shelf

def SomeB (w : World) (e : Ending) (w' : World) : Prop := (∃ b : Bool, e = .returned (.bool b)) ∧ New w w'
theorem someB {w w' : World} {b : Bool} {v : Value} (h : v = .bool b) (n : New w w') : SomeB w (.returned v) w' := ⟨⟨b, by rw [h]⟩, n⟩
set_option maxRecDepth 100000 in
set_option maxHeartbeats 8000000 in
theorem light09_any (m : MgV) (p : MgP) (w : World) (h : MagAt w m p) : Calls Tryz.prog 12 #[magVal m p] w (SomeB w) := by
  obtain ⟨ta, tc, pa, pc, sa, sc, oa, oc⟩ := p
  simp only [magVal, magRow]
  have BX : Hid (Blk (w.alloc (.cells #[.string m.old, .string m.new, .string m.name, .slice ta m.tr.length tc, .slice pa m.pe.length pc, .slice sa m.ws.length sc, .slice oa m.on.length oc] 27)) w.heap.size #[.string m.old, .string m.new, .string m.name, .slice ta m.tr.length tc, .slice pa m.pe.length pc, .slice sa m.ws.length sc, .slice oa m.on.length oc] 27) := hid (Blk.new w _ _)
  have NX : Hid (New w (w.alloc (.cells #[.string m.old, .string m.new, .string m.name, .slice ta m.tr.length tc, .slice pa m.pe.length pc, .slice sa m.ws.length sc, .slice oa m.on.length oc] 27))) := hid ((Mod.refl _ w).alloc _)
  have HTR := hid h.tr; have HWS := hid h.ws; have HPE := hid h.pe
  have r1 := h.pe.room; have r2 := h.pe.cap; have r3 := h.tr.room; have r4 := h.tr.cap; have r5 := h.ws.room; have r6 := h.ws.cap; have r7 := h.on.room; have r8 := h.on.cap
  dsimp only at r1 r2 r3 r4 r5 r6 r7 r8
  unfold maxLen at r2 r4 r6 r8
  clear h
  go_enter Tryz.func12, Tryz.ntmps12
  go_wp2_with fail
  go_loopw [24, 3] (fun i n wr => ∃ (k : Nat) (x : Int), i = .int .i64 k ∧ n = .int .i64 x ∧ k ≤ m.tr.length ∧ New w wr ∧ Blk wr w.heap.size #[.string m.old, .string m.new, .string m.name, .slice ta m.tr.length tc, .slice pa m.pe.length pc, .slice sa m.ws.length sc, .slice oa m.on.length oc] 27) (fun i _ _ => m.tr.length - (intOf i).toNat)
  case atStart => exact ⟨0, _, rfl, rfl, by omega, NX.out, BX.out⟩
  case round =>
    obtain ⟨k, x, rfl, rfl, hk, hn, hbl⟩ := hrel
    have HN := hid hn; have HB := hid hbl
    clear hn hbl
    by_cases hlt : k < m.tr.length
    · obtain ⟨b1, o1, hpe, hb1, hc1⟩ := (HTR.out.new HN.out).get (by omega)
      (try dsimp only at hpe)
      subst hpe
      have g0 := hc1 k hlt
      obtain ⟨s, hs⟩ : ∃ s, s = m.tr[k] := ⟨_, rfl⟩
      rw [← hs] at g0
      clear hs hc1
      go_wp2
      exact ⟨⟨k + 1, _, by simp, rfl, by omega, HN.out, HB.out⟩, by simp [intOf]; omega⟩
    · have c5 := HB.out.cellv 5 rfl
      obtain ⟨W3, hW3⟩ : ∃ W3, W3 = wr := ⟨_, rfl⟩
      subst hW3
      go_wp2_with fail
      clear c5
      go_loopw [36, 3] (fun i n wr => ∃ (k : Nat) (x : Int), i = .int .i64 k ∧ n = .int .i64 x ∧ k ≤ m.ws.length ∧ New w wr ∧ Blk wr w.heap.size #[.string m.old, .string m.new, .string m.name, .slice ta m.tr.length tc, .slice pa m.pe.length pc, .slice sa m.ws.length sc, .slice oa m.on.length oc] 27) (fun i _ _ => m.ws.length - (intOf i).toNat)
      case atStart => exact ⟨0, _, rfl, rfl, by omega, HN.out, HB.out⟩
      case round =>
        clear HN HB
        obtain ⟨k, x, rfl, rfl, hk, hn, hbl⟩ := hrel
        have HN := hid hn; have HB := hid hbl
        clear hn hbl
        by_cases hlt : k < m.ws.length
        · obtain ⟨b1, o1, hpe, hb1, hc1⟩ := (HWS.out.new HN.out).get (by omega)
          (try dsimp only at hpe)
          subst hpe
          have g0 := hc1 k hlt
          obtain ⟨s, hs⟩ : ∃ s, s = m.ws[k] := ⟨_, rfl⟩
          rw [← hs] at g0
          clear hs hc1
          go_wp2
          exact ⟨⟨k + 1, _, by simp, rfl, by omega, HN.out, HB.out⟩, by simp [intOf]; omega⟩
        · have c4 := HB.out.cellv 4 rfl
          obtain ⟨W4, hW4⟩ : ∃ W4, W4 = wr := ⟨_, rfl⟩
          subst hW4
          go_wp2_with fail
          clear c4
          go_loopw [48, 3] (fun i n wr => ∃ (k : Nat) (x : Int), i = .int .i64 k ∧ n = .int .i64 x ∧ k ≤ m.pe.length ∧ New w wr ∧ Blk wr w.heap.size #[.string m.old, .string m.new, .string m.name, .slice ta m.tr.length tc, .slice pa m.pe.length pc, .slice sa m.ws.length sc, .slice oa m.on.length oc] 27) (fun i _ _ => m.pe.length - (intOf i).toNat)
          case atStart => exact ⟨0, _, rfl, rfl, by omega, HN.out, HB.out⟩
          case round =>
            clear HN HB
            obtain ⟨k, x, rfl, rfl, hk, hn, hbl⟩ := hrel
            have HN := hid hn; have HB := hid hbl
            clear hn hbl
            by_cases hlt : k < m.pe.length
            · obtain ⟨b1, o1, hpe, hb1, hc1⟩ := (HPE.out.new HN.out).get (by omega)
              (try dsimp only at hpe)
              subst hpe
              obtain ⟨g0, g1, g2⟩ := hc1 k hlt
              obtain ⟨y, hy⟩ : ∃ y, y = m.pe[k] := ⟨_, rfl⟩
              rw [← hy] at g0 g1 g2
              clear hy hc1
              go_wp2
              refine ⟨⟨k + 1, _, by simp, rfl, by omega, ?_, ?_⟩, by simp [intOf]; omega⟩
              · have q := HN.out
                have q2 := HN.out.size
                repeat (first | with_reducible exact q | with_reducible refine Mod.alloc ?_ _ | with_reducible refine Mod.drew ?_ | with_reducible refine Mod.drewN ?_ _ | (with_reducible refine Mod.set ?_ _ _ (by first | exact .inl rfl | (right; omega) | (right; simp; done) | (right; simp; omega) | (left; omega) | (left; simp; done) | (left; simp; omega))) | (with_reducible refine Mod.putObj ?_ _ _ (by first | exact .inl rfl | (right; omega) | (right; simp; done) | (right; simp; omega) | (left; omega) | (left; simp; done) | (left; simp; omega))))
              · have q2 := HB.out.lt
                apply Blk.row
                · repeat (first | with_reducible exact HB.out | (with_reducible apply Blk.newAt; (simp; done)) | with_reducible apply Blk.alloc | with_reducible apply Blk.drew | with_reducible apply Blk.drewN | with_reducible apply Blk.set | (with_reducible apply Blk.other; · first | (simp; done) | (simp; omega) | omega) | (with_reducible apply Blk.putObj; · first | (simp; done) | (simp; omega) | omega))
                · rfl
            · have c3 := HB.out.cellv 3 rfl; have c4 := HB.out.cellv 4 rfl; have c5 := HB.out.cellv 5 rfl; have c6 := HB.out.cellv 6 rfl
              go_wp2
              all_goals go_ret
              all_goals exact someB rfl HN.out
end Go.Proofs.YtbgmkplpolgebaaGreatDoor
