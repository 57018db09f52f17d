/-
  Several texts in one, in their build order. The walk of Join (package magnet). Conditions: both magnets lie as told.
-/
import Derived.Test.YtbgmkplpolgebaaGreatDoorM40
namespace Go.Proofs.YtbgmkplpolgebaaGreatDoor
set_option linter.unusedSimpArgs false
set_option linter.unusedVariables false
open Go.RowKit Go.Shelf

set_option maxRecDepth 100000 in
set_option maxHeartbeats 16000000 in
theorem mJoin_any (a b : MgV) (p q : MgP) (w : World) (h : MagAt w a p) (k : MagAt w b q) (hp : Tidy p) (hq : Tidy q) :
    Calls Tryz.prog 13 #[magVal a p, magVal b q] w fun e w' => joinQ (joinP a b) e w' ∧ New w w' := by
  have HVA := hid (fun W (n : New w W) => mValid_any a p W (h.new n))
  have HVB := hid (fun W (n : New w W) => mValid_any b q W (k.new n))
  obtain ⟨ta, tc, pa, pc, sa, sc, oa, oc⟩ := p
  obtain ⟨tb, td, pb, pd, sb, sd, ob, od⟩ := q
  simp only [magVal, magRow] at HVA HVB ⊢
  obtain ⟨X, hX⟩ : ∃ X, X = joinP a b := ⟨_, rfl⟩
  have HXX := hid hX
  rw [← hX]
  clear hX
  cases hva : validMg a with
  | false =>
    have HX : Hid (X = .error 1) := hid (by rw [HXX.out]; unfold joinP; rw [hva]; rfl)
    rw [hva] at HVA
    clear h k hp hq hva
    go_enter_defers Tryz.func13, Tryz.ntmps13
    go_wp2_with fail
    refine name_worldA (p := fun W => Calls _ _ _ W _) (fun W1 hW1 => ?_)
    have A1x : Blk W1 w.heap.size #[.string a.old, .string a.new, .string a.name, .slice ta a.tr.length tc, .slice pa a.pe.length pc, .slice sa a.ws.length sc, .slice oa a.on.length oc] 27 := by
      rw [hW1]
      apply Blk.row
      · repeat (first | with_reducible exact hW1 | (with_reducible apply Blk.newAt; (simp; done)) | with_reducible apply Blk.alloc | with_reducible apply Blk.drew | with_reducible apply Blk.drewN | with_reducible apply Blk.set | (with_reducible apply Blk.other; · first | (simp; done) | (simp; omega) | omega) | (with_reducible apply Blk.putObj; · first | (simp; done) | (simp; omega) | omega))
      · rfl
    have B1x : Blk W1 (w.heap.size + 1) #[.string b.old, .string b.new, .string b.name, .slice tb b.tr.length td, .slice pb b.pe.length pd, .slice sb b.ws.length sd, .slice ob b.on.length od] 27 := by
      rw [hW1]
      apply Blk.row
      · repeat (first | with_reducible exact hW1 | (with_reducible apply Blk.newAt; (simp; done)) | with_reducible apply Blk.alloc | with_reducible apply Blk.drew | with_reducible apply Blk.drewN | with_reducible apply Blk.set | (with_reducible apply Blk.other; · first | (simp; done) | (simp; omega) | omega) | (with_reducible apply Blk.putObj; · first | (simp; done) | (simp; omega) | omega))
      · rfl
    have M1x : Blk W1 (w.heap.size + 1 + 1) zeroMg 27 := by
      rw [hW1]
      apply Blk.row
      · repeat (first | with_reducible exact hW1 | (with_reducible apply Blk.newAt; (simp; done)) | with_reducible apply Blk.alloc | with_reducible apply Blk.drew | with_reducible apply Blk.drewN | with_reducible apply Blk.set | (with_reducible apply Blk.other; · first | (simp; done) | (simp; omega) | omega) | (with_reducible apply Blk.putObj; · first | (simp; done) | (simp; omega) | omega))
      · rfl
    have E1x : Blk W1 (w.heap.size + 1 + 1 + 1) #[.int .i64 0] 28 := by
      rw [hW1]
      apply Blk.row
      · repeat (first | with_reducible exact hW1 | (with_reducible apply Blk.newAt; (simp; done)) | with_reducible apply Blk.alloc | with_reducible apply Blk.drew | with_reducible apply Blk.drewN | with_reducible apply Blk.set | (with_reducible apply Blk.other; · first | (simp; done) | (simp; omega) | omega) | (with_reducible apply Blk.putObj; · first | (simp; done) | (simp; omega) | omega))
      · rfl
    have N1x : New w W1 := by
      rw [hW1]
      repeat (first | with_reducible exact Mod.refl _ w | with_reducible refine Mod.alloc ?_ _ | with_reducible refine Mod.drew ?_ | with_reducible refine Mod.drewN ?_ _ | (with_reducible refine Mod.set ?_ _ _ (by first | exact .inl rfl | (right; omega) | (right; simp; done) | (right; simp; omega) | (left; omega) | (left; simp; done) | (left; simp; omega))) | (with_reducible refine Mod.putObj ?_ _ _ (by first | exact .inl rfl | (right; omega) | (right; simp; done) | (right; simp; omega) | (left; omega) | (left; simp; done) | (left; simp; omega))))
    have A1 := hid A1x; have B1 := hid B1x; have M1 := hid M1x; have E1 := hid E1x; have N1 := hid N1x
    clear hW1 A1x B1x M1x E1x N1x
    refine (HVA.out _ N1.out).mono ?_
    rintro e w2 ⟨rfl, n2⟩
    have A2 := hid (New.blk n2 A1.out); have B2 := hid (New.blk n2 B1.out); have M2 := hid (New.blk n2 M1.out); have E2 := hid (New.blk n2 E1.out); have N2 := hid (N1.out.trans n2)
    clear n2
    go_wp2_with fail
    refine (need_no 1 _).mono ?_
    rintro e w4 ⟨rfl, rfl⟩
    go_wp2
    exact join_caught HX.out M2.out E2.out N2.out rfl rfl
  | true =>
    rw [hva] at HVA
    cases hvb : validMg b with
    | false =>
      have HX : Hid (X = .error 1) := hid (by rw [HXX.out]; unfold joinP; rw [hva, hvb]; rfl)
      rw [hvb] at HVB
      clear h k hp hq hva hvb
      go_enter_defers Tryz.func13, Tryz.ntmps13
      go_wp2_with fail
      refine name_worldA (p := fun W => Calls _ _ _ W _) (fun W1 hW1 => ?_)
      have A1x : Blk W1 w.heap.size #[.string a.old, .string a.new, .string a.name, .slice ta a.tr.length tc, .slice pa a.pe.length pc, .slice sa a.ws.length sc, .slice oa a.on.length oc] 27 := by
        rw [hW1]
        apply Blk.row
        · repeat (first | with_reducible exact hW1 | (with_reducible apply Blk.newAt; (simp; done)) | with_reducible apply Blk.alloc | with_reducible apply Blk.drew | with_reducible apply Blk.drewN | with_reducible apply Blk.set | (with_reducible apply Blk.other; · first | (simp; done) | (simp; omega) | omega) | (with_reducible apply Blk.putObj; · first | (simp; done) | (simp; omega) | omega))
        · rfl
      have B1x : Blk W1 (w.heap.size + 1) #[.string b.old, .string b.new, .string b.name, .slice tb b.tr.length td, .slice pb b.pe.length pd, .slice sb b.ws.length sd, .slice ob b.on.length od] 27 := by
        rw [hW1]
        apply Blk.row
        · repeat (first | with_reducible exact hW1 | (with_reducible apply Blk.newAt; (simp; done)) | with_reducible apply Blk.alloc | with_reducible apply Blk.drew | with_reducible apply Blk.drewN | with_reducible apply Blk.set | (with_reducible apply Blk.other; · first | (simp; done) | (simp; omega) | omega) | (with_reducible apply Blk.putObj; · first | (simp; done) | (simp; omega) | omega))
        · rfl
      have M1x : Blk W1 (w.heap.size + 1 + 1) zeroMg 27 := by
        rw [hW1]
        apply Blk.row
        · repeat (first | with_reducible exact hW1 | (with_reducible apply Blk.newAt; (simp; done)) | with_reducible apply Blk.alloc | with_reducible apply Blk.drew | with_reducible apply Blk.drewN | with_reducible apply Blk.set | (with_reducible apply Blk.other; · first | (simp; done) | (simp; omega) | omega) | (with_reducible apply Blk.putObj; · first | (simp; done) | (simp; omega) | omega))
        · rfl
      have E1x : Blk W1 (w.heap.size + 1 + 1 + 1) #[.int .i64 0] 28 := by
        rw [hW1]
        apply Blk.row
        · repeat (first | with_reducible exact hW1 | (with_reducible apply Blk.newAt; (simp; done)) | with_reducible apply Blk.alloc | with_reducible apply Blk.drew | with_reducible apply Blk.drewN | with_reducible apply Blk.set | (with_reducible apply Blk.other; · first | (simp; done) | (simp; omega) | omega) | (with_reducible apply Blk.putObj; · first | (simp; done) | (simp; omega) | omega))
        · rfl
      have N1x : New w W1 := by
        rw [hW1]
        repeat (first | with_reducible exact Mod.refl _ w | with_reducible refine Mod.alloc ?_ _ | with_reducible refine Mod.drew ?_ | with_reducible refine Mod.drewN ?_ _ | (with_reducible refine Mod.set ?_ _ _ (by first | exact .inl rfl | (right; omega) | (right; simp; done) | (right; simp; omega) | (left; omega) | (left; simp; done) | (left; simp; omega))) | (with_reducible refine Mod.putObj ?_ _ _ (by first | exact .inl rfl | (right; omega) | (right; simp; done) | (right; simp; omega) | (left; omega) | (left; simp; done) | (left; simp; omega))))
      have A1 := hid A1x; have B1 := hid B1x; have M1 := hid M1x; have E1 := hid E1x; have N1 := hid N1x
      clear hW1 A1x B1x M1x E1x N1x
      refine (HVA.out _ N1.out).mono ?_
      rintro e w2 ⟨rfl, n2⟩
      have A2 := hid (New.blk n2 A1.out); have B2 := hid (New.blk n2 B1.out); have M2 := hid (New.blk n2 M1.out); have E2 := hid (New.blk n2 E1.out); have N2 := hid (N1.out.trans n2)
      clear n2
      have b0 : w2.cell? ⟨w.heap.size + 1, 0, none⟩ = some (.string b.old) := B2.out.cellv 0 rfl
      have b1 : w2.cell? ⟨w.heap.size + 1, 1, none⟩ = some (.string b.new) := B2.out.cellv 1 rfl
      have b2 : w2.cell? ⟨w.heap.size + 1, 2, none⟩ = some (.string b.name) := B2.out.cellv 2 rfl
      have b3 : w2.cell? ⟨w.heap.size + 1, 3, none⟩ = some (.slice tb b.tr.length td) := B2.out.cellv 3 rfl
      have b4 : w2.cell? ⟨w.heap.size + 1, 4, none⟩ = some (.slice pb b.pe.length pd) := B2.out.cellv 4 rfl
      have b5 : w2.cell? ⟨w.heap.size + 1, 5, none⟩ = some (.slice sb b.ws.length sd) := B2.out.cellv 5 rfl
      have b6 : w2.cell? ⟨w.heap.size + 1, 6, none⟩ = some (.slice ob b.on.length od) := B2.out.cellv 6 rfl
      go_wp2_with fail
      refine (HVB.out _ N2.out).mono ?_
      rintro e w3 ⟨rfl, n3⟩
      have A3 := hid (New.blk n3 A2.out); have B3 := hid (New.blk n3 B2.out); have M3 := hid (New.blk n3 M2.out); have E3 := hid (New.blk n3 E2.out); have N3 := hid (N2.out.trans n3)
      clear n3 b0 b1 b2 b3 b4 b5 b6
      go_wp2_with fail
      refine (need_no 1 _).mono ?_
      rintro e w4 ⟨rfl, rfl⟩
      go_wp2
      exact join_caught HX.out M3.out E3.out N3.out rfl rfl
    | true =>
      rw [hvb] at HVB
      have hoka := validMg_iff.1 hva
      have hokb := validMg_iff.1 hvb
      have HX10 := hid (fun (e : (confJ a.old b.old || confJ a.new b.new || !(comJ a.old b.old || comJ a.new b.new)) = true) => show X = .error 10 by rw [HXX.out]; unfold joinP; rw [hva, hvb, if_neg (by decide), if_pos e])
      have HXGO := hid (fun (e : (confJ a.old b.old || confJ a.new b.new || !(comJ a.old b.old || comJ a.new b.new)) = false) => show X = (if 10 < (joinV a b).tr.length ∨ 10 < (joinV a b).ws.length ∨ 20 < (joinV a b).pe.length then .error 4 else .ok (joinV a b)) by rw [HXX.out]; unfold joinP; rw [hva, hvb, if_neg (by decide), if_neg (by rw [e]; decide)])
      clear hva hvb
      cases hco : confJ a.old b.old with
      | true =>
        have HX := hid (HX10.out (by rw [hco]; rfl))
        have HT := hid (fun C W => jtop_no C a.old b.old W hco)
        clear h k hp hq hoka hokb hco
        go_enter_defers Tryz.func13, Tryz.ntmps13
        go_wp2_with fail
        refine name_worldA (p := fun W => Calls _ _ _ W _) (fun W1 hW1 => ?_)
        have A1x : Blk W1 w.heap.size #[.string a.old, .string a.new, .string a.name, .slice ta a.tr.length tc, .slice pa a.pe.length pc, .slice sa a.ws.length sc, .slice oa a.on.length oc] 27 := by
          rw [hW1]
          apply Blk.row
          · repeat (first | with_reducible exact hW1 | (with_reducible apply Blk.newAt; (simp; done)) | with_reducible apply Blk.alloc | with_reducible apply Blk.drew | with_reducible apply Blk.drewN | with_reducible apply Blk.set | (with_reducible apply Blk.other; · first | (simp; done) | (simp; omega) | omega) | (with_reducible apply Blk.putObj; · first | (simp; done) | (simp; omega) | omega))
          · rfl
        have B1x : Blk W1 (w.heap.size + 1) #[.string b.old, .string b.new, .string b.name, .slice tb b.tr.length td, .slice pb b.pe.length pd, .slice sb b.ws.length sd, .slice ob b.on.length od] 27 := by
          rw [hW1]
          apply Blk.row
          · repeat (first | with_reducible exact hW1 | (with_reducible apply Blk.newAt; (simp; done)) | with_reducible apply Blk.alloc | with_reducible apply Blk.drew | with_reducible apply Blk.drewN | with_reducible apply Blk.set | (with_reducible apply Blk.other; · first | (simp; done) | (simp; omega) | omega) | (with_reducible apply Blk.putObj; · first | (simp; done) | (simp; omega) | omega))
          · rfl
        have M1x : Blk W1 (w.heap.size + 1 + 1) zeroMg 27 := by
          rw [hW1]
          apply Blk.row
          · repeat (first | with_reducible exact hW1 | (with_reducible apply Blk.newAt; (simp; done)) | with_reducible apply Blk.alloc | with_reducible apply Blk.drew | with_reducible apply Blk.drewN | with_reducible apply Blk.set | (with_reducible apply Blk.other; · first | (simp; done) | (simp; omega) | omega) | (with_reducible apply Blk.putObj; · first | (simp; done) | (simp; omega) | omega))
          · rfl
        have E1x : Blk W1 (w.heap.size + 1 + 1 + 1) #[.int .i64 0] 28 := by
          rw [hW1]
          apply Blk.row
          · repeat (first | with_reducible exact hW1 | (with_reducible apply Blk.newAt; (simp; done)) | with_reducible apply Blk.alloc | with_reducible apply Blk.drew | with_reducible apply Blk.drewN | with_reducible apply Blk.set | (with_reducible apply Blk.other; · first | (simp; done) | (simp; omega) | omega) | (with_reducible apply Blk.putObj; · first | (simp; done) | (simp; omega) | omega))
          · rfl
        have N1x : New w W1 := by
          rw [hW1]
          repeat (first | with_reducible exact Mod.refl _ w | with_reducible refine Mod.alloc ?_ _ | with_reducible refine Mod.drew ?_ | with_reducible refine Mod.drewN ?_ _ | (with_reducible refine Mod.set ?_ _ _ (by first | exact .inl rfl | (right; omega) | (right; simp; done) | (right; simp; omega) | (left; omega) | (left; simp; done) | (left; simp; omega))) | (with_reducible refine Mod.putObj ?_ _ _ (by first | exact .inl rfl | (right; omega) | (right; simp; done) | (right; simp; omega) | (left; omega) | (left; simp; done) | (left; simp; omega))))
        have A1 := hid A1x; have B1 := hid B1x; have M1 := hid M1x; have E1 := hid E1x; have N1 := hid N1x
        clear hW1 A1x B1x M1x E1x N1x
        refine (HVA.out _ N1.out).mono ?_
        rintro e w2 ⟨rfl, n2⟩
        have A2 := hid (New.blk n2 A1.out); have B2 := hid (New.blk n2 B1.out); have M2 := hid (New.blk n2 M1.out); have E2 := hid (New.blk n2 E1.out); have N2 := hid (N1.out.trans n2)
        clear n2
        have b0 : w2.cell? ⟨w.heap.size + 1, 0, none⟩ = some (.string b.old) := B2.out.cellv 0 rfl
        have b1 : w2.cell? ⟨w.heap.size + 1, 1, none⟩ = some (.string b.new) := B2.out.cellv 1 rfl
        have b2 : w2.cell? ⟨w.heap.size + 1, 2, none⟩ = some (.string b.name) := B2.out.cellv 2 rfl
        have b3 : w2.cell? ⟨w.heap.size + 1, 3, none⟩ = some (.slice tb b.tr.length td) := B2.out.cellv 3 rfl
        have b4 : w2.cell? ⟨w.heap.size + 1, 4, none⟩ = some (.slice pb b.pe.length pd) := B2.out.cellv 4 rfl
        have b5 : w2.cell? ⟨w.heap.size + 1, 5, none⟩ = some (.slice sb b.ws.length sd) := B2.out.cellv 5 rfl
        have b6 : w2.cell? ⟨w.heap.size + 1, 6, none⟩ = some (.slice ob b.on.length od) := B2.out.cellv 6 rfl
        go_wp2_with fail
        refine (HVB.out _ N2.out).mono ?_
        rintro e w3 ⟨rfl, n3⟩
        have A3 := hid (New.blk n3 A2.out); have B3 := hid (New.blk n3 B2.out); have M3 := hid (New.blk n3 M2.out); have E3 := hid (New.blk n3 E2.out); have N3 := hid (N2.out.trans n3)
        clear n3 b0 b1 b2 b3 b4 b5 b6
        go_wp2_with fail
        refine (need_yes 1 _).mono ?_
        rintro e w4 ⟨rfl, rfl⟩
        go_wp2_with fail
        refine name_worldA (p := fun W => Code.wp _ _ _ _ W) (fun W4 hW4 => ?_)
        have J4x : JS w W4 a b ⟨ta, tc, pa, pc, sa, sc, oa, oc⟩ ⟨tb, td, pb, pd, sb, sd, ob, od⟩ w3.heap.size (w3.heap.size + 1) false zeroMg := by
          have s1 := E3.out.lt
          refine ⟨?_, ?_, ?_, ?_, ?_, ?_, by omega, by omega, ?_⟩
          · rw [hW4]
            apply Blk.row
            · repeat (first | with_reducible exact A3.out | (with_reducible apply Blk.newAt; (simp; done)) | with_reducible apply Blk.alloc | with_reducible apply Blk.drew | with_reducible apply Blk.drewN | with_reducible apply Blk.set | (with_reducible apply Blk.other; · first | (simp; done) | (simp; omega) | omega) | (with_reducible apply Blk.putObj; · first | (simp; done) | (simp; omega) | omega))
            · rfl
          · rw [hW4]
            apply Blk.row
            · repeat (first | with_reducible exact B3.out | (with_reducible apply Blk.newAt; (simp; done)) | with_reducible apply Blk.alloc | with_reducible apply Blk.drew | with_reducible apply Blk.drewN | with_reducible apply Blk.set | (with_reducible apply Blk.other; · first | (simp; done) | (simp; omega) | omega) | (with_reducible apply Blk.putObj; · first | (simp; done) | (simp; omega) | omega))
            · rfl
          · rw [hW4]
            apply Blk.row
            · repeat (first | with_reducible exact M3.out | (with_reducible apply Blk.newAt; (simp; done)) | with_reducible apply Blk.alloc | with_reducible apply Blk.drew | with_reducible apply Blk.drewN | with_reducible apply Blk.set | (with_reducible apply Blk.other; · first | (simp; done) | (simp; omega) | omega) | (with_reducible apply Blk.putObj; · first | (simp; done) | (simp; omega) | omega))
            · rfl
          · rw [hW4]
            apply Blk.row
            · repeat (first | with_reducible exact E3.out | (with_reducible apply Blk.newAt; (simp; done)) | with_reducible apply Blk.alloc | with_reducible apply Blk.drew | with_reducible apply Blk.drewN | with_reducible apply Blk.set | (with_reducible apply Blk.other; · first | (simp; done) | (simp; omega) | omega) | (with_reducible apply Blk.putObj; · first | (simp; done) | (simp; omega) | omega))
            · rfl
          · rw [hW4]
            apply Blk.row
            · repeat (first | with_reducible exact hW4 | (with_reducible apply Blk.newAt; (simp; done)) | with_reducible apply Blk.alloc | with_reducible apply Blk.drew | with_reducible apply Blk.drewN | with_reducible apply Blk.set | (with_reducible apply Blk.other; · first | (simp; done) | (simp; omega) | omega) | (with_reducible apply Blk.putObj; · first | (simp; done) | (simp; omega) | omega))
            · rfl
          · rw [hW4]
            apply Blk.row
            · repeat (first | with_reducible exact hW4 | (with_reducible apply Blk.newAt; (simp; done)) | with_reducible apply Blk.alloc | with_reducible apply Blk.drew | with_reducible apply Blk.drewN | with_reducible apply Blk.set | (with_reducible apply Blk.other; · first | (simp; done) | (simp; omega) | omega) | (with_reducible apply Blk.putObj; · first | (simp; done) | (simp; omega) | omega))
            · rfl
          · have q := N3.out
            rw [hW4]
            repeat (first | with_reducible exact q | with_reducible refine Mod.alloc ?_ _ | with_reducible refine Mod.drew ?_ | with_reducible refine Mod.drewN ?_ _ | (with_reducible refine Mod.set ?_ _ _ (by first | exact .inl rfl | (right; omega) | (right; simp; done) | (right; simp; omega) | (left; omega) | (left; simp; done) | (left; simp; omega))) | (with_reducible refine Mod.putObj ?_ _ _ (by first | exact .inl rfl | (right; omega) | (right; simp; done) | (right; simp; omega) | (left; omega) | (left; simp; done) | (left; simp; omega))))
        have J4 := hid J4x
        obtain ⟨C, hC⟩ : ∃ C, C = w3.heap.size := ⟨_, rfl⟩
        rw [← hC] at J4 ⊢
        clear hW4 J4x hC
        refine wp_region_panQ (fun w' => w'.cell? ⟨w.heap.size, 0, none⟩ = some (.string a.old) ∧ w'.cell? ⟨w.heap.size + 1, 0, none⟩ = some (.string b.old) ∧ w'.cell? ⟨w.heap.size, 1, none⟩ = some (.string a.new) ∧ w'.cell? ⟨w.heap.size + 1, 1, none⟩ = some (.string b.new))
          [{ target := .fn (.func 21) #[], args := #[.pointer (some ⟨w.heap.size + 1 + 1 + 1, 0, none⟩)] }] 4 5 (.pointer (some ⟨w.heap.size + 1 + 1, 0, none⟩)) (.pointer (some ⟨w.heap.size + 1 + 1 + 1, 0, none⟩))
          (fun c W => X = .error 10 ∧ c = toldM 10 ∧ Blk W (w.heap.size + 1 + 1) zeroMg 27 ∧ Blk W (w.heap.size + 1 + 1 + 1) #[.int .i64 0] 28 ∧ New w W) (by kernel_rfl) J4.out.drew.held ?hpan (fun hHeld => ?_)
        case hpan =>
          rintro c act W hd h4 h5 ⟨hx, rfl, hM, hE, hn⟩
          show Leaves _ _ act.tmps _ act.defers _ W
          rw [hd]
          exact join_caught hx hM hE hn h4 h5
        refine tk (v := ?_) 0 ?_ ?_ (hQ := by exact panQ_put (by decide) (by decide))
        rotate_left
        · intro w hSw
          (try dsimp only at hSw)
          first | (go_simp; done) | (go_simp; with_reducible rfl) | with_reducible rfl
        simp only [Act.put, List.setIfInBounds_toArray, List.set_cons_zero, List.set_cons_succ]
        refine tk (v := ?_) 1 ?_ ?_ (hQ := by exact panQ_put (by decide) (by decide))
        rotate_left
        · intro w hSw
          (try dsimp only at hSw)
          first | (go_simp; done) | (go_simp; with_reducible rfl) | with_reducible rfl
        simp only [Act.put, List.setIfInBounds_toArray, List.set_cons_zero, List.set_cons_succ]
        refine tk (v := ?_) 2 ?_ ?_ (hQ := by exact panQ_put (by decide) (by decide))
        rotate_left
        · intro w hSw
          (try dsimp only at hSw)
          first | (go_simp; done) | (go_simp; with_reducible rfl) | with_reducible rfl
        simp only [Act.put, List.setIfInBounds_toArray, List.set_cons_zero, List.set_cons_succ]
        refine tk (v := ?_) 3 ?_ ?_ (hQ := by exact panQ_put (by decide) (by decide))
        rotate_left
        · intro w hSw
          (try dsimp only at hSw)
          first | (go_simp; done) | (go_simp; with_reducible rfl) | with_reducible rfl
        simp only [Act.put, List.setIfInBounds_toArray, List.set_cons_zero, List.set_cons_succ]
        refine tk (v := ?_) 4 ?_ ?_ (hQ := by exact panQ_put (by decide) (by decide))
        rotate_left
        · intro w hSw
          (try dsimp only at hSw)
          first | (go_simp; done) | (go_simp; with_reducible rfl) | with_reducible rfl
        simp only [Act.put, List.setIfInBounds_toArray, List.set_cons_zero, List.set_cons_succ]
        refine tk (v := ?_) 6 ?_ ?_ (hQ := by exact panQ_put (by decide) (by decide))
        rotate_left
        · intro w hSw
          (try dsimp only at hSw)
          first | (go_simp; done) | (go_simp; with_reducible rfl) | with_reducible rfl
        simp only [Act.put, List.setIfInBounds_toArray, List.set_cons_zero, List.set_cons_succ]
        refine tk (v := ?_) 7 ?_ ?_ (hQ := by exact panQ_put (by decide) (by decide))
        rotate_left
        · intro w hSw
          (try dsimp only at hSw)
          first | (go_simp; done) | (go_simp; with_reducible rfl) | with_reducible rfl
        simp only [Act.put, List.setIfInBounds_toArray, List.set_cons_zero, List.set_cons_succ]
        refine tk (v := ?_) 8 ?_ ?_ (hQ := by exact panQ_put (by decide) (by decide))
        rotate_left
        · intro w hSw
          (try dsimp only at hSw)
          first | (go_simp; done) | (go_simp; with_reducible rfl) | with_reducible rfl
        simp only [Act.put, List.setIfInBounds_toArray, List.set_cons_zero, List.set_cons_succ]
        refine tk (v := ?_) 9 ?_ ?_ (hQ := by exact panQ_put (by decide) (by decide))
        rotate_left
        · intro w hSw
          (try dsimp only at hSw)
          first | (go_simp; done) | (go_simp; with_reducible rfl) | with_reducible rfl
        simp only [Act.put, List.setIfInBounds_toArray, List.set_cons_zero, List.set_cons_succ]
        refine tk (v := ?_) 10 ?_ ?_ (hQ := by exact panQ_put (by decide) (by decide))
        rotate_left
        · intro w hSw
          (try dsimp only at hSw)
          first | (go_simp; done) | (go_simp; with_reducible rfl) | with_reducible rfl
        simp only [Act.put, List.setIfInBounds_toArray, List.set_cons_zero, List.set_cons_succ]
        refine wpAnyH_ready (rs := [5]) (by kernel_rfl) (by simp) ?_
        refine AllReadyH.cons (by simp only [List.getElem?_toArray, List.getElem?_cons_succ, List.getElem?_cons_zero]; rfl) (fun K hK => ?_) AllReadyH.nil
        go_simp
        (go_at_call 36; refine (HT.out _ _).mono ?_; rintro e w9 ⟨rfl, rfl⟩)
        try dsimp only
        exact ⟨rfl, rfl, rfl, HX.out, rfl, J4.out.drew.bM, J4.out.drew.bE, J4.out.drew.new⟩
      | false =>
        cases hcn : confJ a.new b.new with
        | true =>
          have HX := hid (HX10.out (by rw [hco, hcn]; rfl))
          have HT1 := hid (fun C W hb => jtop_yes C false a.old b.old W hco hb)
          have HT := hid (fun C W => jtop_no C a.new b.new W hcn)
          clear h k hp hq hoka hokb hco hcn
          go_enter_defers Tryz.func13, Tryz.ntmps13
          go_wp2_with fail
          refine name_worldA (p := fun W => Calls _ _ _ W _) (fun W1 hW1 => ?_)
          have A1x : Blk W1 w.heap.size #[.string a.old, .string a.new, .string a.name, .slice ta a.tr.length tc, .slice pa a.pe.length pc, .slice sa a.ws.length sc, .slice oa a.on.length oc] 27 := by
            rw [hW1]
            apply Blk.row
            · repeat (first | with_reducible exact hW1 | (with_reducible apply Blk.newAt; (simp; done)) | with_reducible apply Blk.alloc | with_reducible apply Blk.drew | with_reducible apply Blk.drewN | with_reducible apply Blk.set | (with_reducible apply Blk.other; · first | (simp; done) | (simp; omega) | omega) | (with_reducible apply Blk.putObj; · first | (simp; done) | (simp; omega) | omega))
            · rfl
          have B1x : Blk W1 (w.heap.size + 1) #[.string b.old, .string b.new, .string b.name, .slice tb b.tr.length td, .slice pb b.pe.length pd, .slice sb b.ws.length sd, .slice ob b.on.length od] 27 := by
            rw [hW1]
            apply Blk.row
            · repeat (first | with_reducible exact hW1 | (with_reducible apply Blk.newAt; (simp; done)) | with_reducible apply Blk.alloc | with_reducible apply Blk.drew | with_reducible apply Blk.drewN | with_reducible apply Blk.set | (with_reducible apply Blk.other; · first | (simp; done) | (simp; omega) | omega) | (with_reducible apply Blk.putObj; · first | (simp; done) | (simp; omega) | omega))
            · rfl
          have M1x : Blk W1 (w.heap.size + 1 + 1) zeroMg 27 := by
            rw [hW1]
            apply Blk.row
            · repeat (first | with_reducible exact hW1 | (with_reducible apply Blk.newAt; (simp; done)) | with_reducible apply Blk.alloc | with_reducible apply Blk.drew | with_reducible apply Blk.drewN | with_reducible apply Blk.set | (with_reducible apply Blk.other; · first | (simp; done) | (simp; omega) | omega) | (with_reducible apply Blk.putObj; · first | (simp; done) | (simp; omega) | omega))
            · rfl
          have E1x : Blk W1 (w.heap.size + 1 + 1 + 1) #[.int .i64 0] 28 := by
            rw [hW1]
            apply Blk.row
            · repeat (first | with_reducible exact hW1 | (with_reducible apply Blk.newAt; (simp; done)) | with_reducible apply Blk.alloc | with_reducible apply Blk.drew | with_reducible apply Blk.drewN | with_reducible apply Blk.set | (with_reducible apply Blk.other; · first | (simp; done) | (simp; omega) | omega) | (with_reducible apply Blk.putObj; · first | (simp; done) | (simp; omega) | omega))
            · rfl
          have N1x : New w W1 := by
            rw [hW1]
            repeat (first | with_reducible exact Mod.refl _ w | with_reducible refine Mod.alloc ?_ _ | with_reducible refine Mod.drew ?_ | with_reducible refine Mod.drewN ?_ _ | (with_reducible refine Mod.set ?_ _ _ (by first | exact .inl rfl | (right; omega) | (right; simp; done) | (right; simp; omega) | (left; omega) | (left; simp; done) | (left; simp; omega))) | (with_reducible refine Mod.putObj ?_ _ _ (by first | exact .inl rfl | (right; omega) | (right; simp; done) | (right; simp; omega) | (left; omega) | (left; simp; done) | (left; simp; omega))))
          have A1 := hid A1x; have B1 := hid B1x; have M1 := hid M1x; have E1 := hid E1x; have N1 := hid N1x
          clear hW1 A1x B1x M1x E1x N1x
          refine (HVA.out _ N1.out).mono ?_
          rintro e w2 ⟨rfl, n2⟩
          have A2 := hid (New.blk n2 A1.out); have B2 := hid (New.blk n2 B1.out); have M2 := hid (New.blk n2 M1.out); have E2 := hid (New.blk n2 E1.out); have N2 := hid (N1.out.trans n2)
          clear n2
          have b0 : w2.cell? ⟨w.heap.size + 1, 0, none⟩ = some (.string b.old) := B2.out.cellv 0 rfl
          have b1 : w2.cell? ⟨w.heap.size + 1, 1, none⟩ = some (.string b.new) := B2.out.cellv 1 rfl
          have b2 : w2.cell? ⟨w.heap.size + 1, 2, none⟩ = some (.string b.name) := B2.out.cellv 2 rfl
          have b3 : w2.cell? ⟨w.heap.size + 1, 3, none⟩ = some (.slice tb b.tr.length td) := B2.out.cellv 3 rfl
          have b4 : w2.cell? ⟨w.heap.size + 1, 4, none⟩ = some (.slice pb b.pe.length pd) := B2.out.cellv 4 rfl
          have b5 : w2.cell? ⟨w.heap.size + 1, 5, none⟩ = some (.slice sb b.ws.length sd) := B2.out.cellv 5 rfl
          have b6 : w2.cell? ⟨w.heap.size + 1, 6, none⟩ = some (.slice ob b.on.length od) := B2.out.cellv 6 rfl
          go_wp2_with fail
          refine (HVB.out _ N2.out).mono ?_
          rintro e w3 ⟨rfl, n3⟩
          have A3 := hid (New.blk n3 A2.out); have B3 := hid (New.blk n3 B2.out); have M3 := hid (New.blk n3 M2.out); have E3 := hid (New.blk n3 E2.out); have N3 := hid (N2.out.trans n3)
          clear n3 b0 b1 b2 b3 b4 b5 b6
          go_wp2_with fail
          refine (need_yes 1 _).mono ?_
          rintro e w4 ⟨rfl, rfl⟩
          go_wp2_with fail
          refine name_worldA (p := fun W => Code.wp _ _ _ _ W) (fun W4 hW4 => ?_)
          have J4x : JS w W4 a b ⟨ta, tc, pa, pc, sa, sc, oa, oc⟩ ⟨tb, td, pb, pd, sb, sd, ob, od⟩ w3.heap.size (w3.heap.size + 1) false zeroMg := by
            have s1 := E3.out.lt
            refine ⟨?_, ?_, ?_, ?_, ?_, ?_, by omega, by omega, ?_⟩
            · rw [hW4]
              apply Blk.row
              · repeat (first | with_reducible exact A3.out | (with_reducible apply Blk.newAt; (simp; done)) | with_reducible apply Blk.alloc | with_reducible apply Blk.drew | with_reducible apply Blk.drewN | with_reducible apply Blk.set | (with_reducible apply Blk.other; · first | (simp; done) | (simp; omega) | omega) | (with_reducible apply Blk.putObj; · first | (simp; done) | (simp; omega) | omega))
              · rfl
            · rw [hW4]
              apply Blk.row
              · repeat (first | with_reducible exact B3.out | (with_reducible apply Blk.newAt; (simp; done)) | with_reducible apply Blk.alloc | with_reducible apply Blk.drew | with_reducible apply Blk.drewN | with_reducible apply Blk.set | (with_reducible apply Blk.other; · first | (simp; done) | (simp; omega) | omega) | (with_reducible apply Blk.putObj; · first | (simp; done) | (simp; omega) | omega))
              · rfl
            · rw [hW4]
              apply Blk.row
              · repeat (first | with_reducible exact M3.out | (with_reducible apply Blk.newAt; (simp; done)) | with_reducible apply Blk.alloc | with_reducible apply Blk.drew | with_reducible apply Blk.drewN | with_reducible apply Blk.set | (with_reducible apply Blk.other; · first | (simp; done) | (simp; omega) | omega) | (with_reducible apply Blk.putObj; · first | (simp; done) | (simp; omega) | omega))
              · rfl
            · rw [hW4]
              apply Blk.row
              · repeat (first | with_reducible exact E3.out | (with_reducible apply Blk.newAt; (simp; done)) | with_reducible apply Blk.alloc | with_reducible apply Blk.drew | with_reducible apply Blk.drewN | with_reducible apply Blk.set | (with_reducible apply Blk.other; · first | (simp; done) | (simp; omega) | omega) | (with_reducible apply Blk.putObj; · first | (simp; done) | (simp; omega) | omega))
              · rfl
            · rw [hW4]
              apply Blk.row
              · repeat (first | with_reducible exact hW4 | (with_reducible apply Blk.newAt; (simp; done)) | with_reducible apply Blk.alloc | with_reducible apply Blk.drew | with_reducible apply Blk.drewN | with_reducible apply Blk.set | (with_reducible apply Blk.other; · first | (simp; done) | (simp; omega) | omega) | (with_reducible apply Blk.putObj; · first | (simp; done) | (simp; omega) | omega))
              · rfl
            · rw [hW4]
              apply Blk.row
              · repeat (first | with_reducible exact hW4 | (with_reducible apply Blk.newAt; (simp; done)) | with_reducible apply Blk.alloc | with_reducible apply Blk.drew | with_reducible apply Blk.drewN | with_reducible apply Blk.set | (with_reducible apply Blk.other; · first | (simp; done) | (simp; omega) | omega) | (with_reducible apply Blk.putObj; · first | (simp; done) | (simp; omega) | omega))
              · rfl
            · have q := N3.out
              rw [hW4]
              repeat (first | with_reducible exact q | with_reducible refine Mod.alloc ?_ _ | with_reducible refine Mod.drew ?_ | with_reducible refine Mod.drewN ?_ _ | (with_reducible refine Mod.set ?_ _ _ (by first | exact .inl rfl | (right; omega) | (right; simp; done) | (right; simp; omega) | (left; omega) | (left; simp; done) | (left; simp; omega))) | (with_reducible refine Mod.putObj ?_ _ _ (by first | exact .inl rfl | (right; omega) | (right; simp; done) | (right; simp; omega) | (left; omega) | (left; simp; done) | (left; simp; omega))))
          have J4 := hid J4x
          obtain ⟨C, hC⟩ : ∃ C, C = w3.heap.size := ⟨_, rfl⟩
          rw [← hC] at J4 ⊢
          clear hW4 J4x hC
          refine wp_region_panQ (fun w' => w'.cell? ⟨w.heap.size, 0, none⟩ = some (.string a.old) ∧ w'.cell? ⟨w.heap.size + 1, 0, none⟩ = some (.string b.old) ∧ w'.cell? ⟨w.heap.size, 1, none⟩ = some (.string a.new) ∧ w'.cell? ⟨w.heap.size + 1, 1, none⟩ = some (.string b.new))
            [{ target := .fn (.func 21) #[], args := #[.pointer (some ⟨w.heap.size + 1 + 1 + 1, 0, none⟩)] }] 4 5 (.pointer (some ⟨w.heap.size + 1 + 1, 0, none⟩)) (.pointer (some ⟨w.heap.size + 1 + 1 + 1, 0, none⟩))
            (fun c W => X = .error 10 ∧ c = toldM 10 ∧ Blk W (w.heap.size + 1 + 1) zeroMg 27 ∧ Blk W (w.heap.size + 1 + 1 + 1) #[.int .i64 0] 28 ∧ New w W) (by kernel_rfl) J4.out.drew.held ?hpan (fun hHeld => ?_)
          case hpan =>
            rintro c act W hd h4 h5 ⟨hx, rfl, hM, hE, hn⟩
            show Leaves _ _ act.tmps _ act.defers _ W
            rw [hd]
            exact join_caught hx hM hE hn h4 h5
          refine tk (v := ?_) 0 ?_ ?_ (hQ := by exact panQ_put (by decide) (by decide))
          rotate_left
          · intro w hSw
            (try dsimp only at hSw)
            first | (go_simp; done) | (go_simp; with_reducible rfl) | with_reducible rfl
          simp only [Act.put, List.setIfInBounds_toArray, List.set_cons_zero, List.set_cons_succ]
          refine tk (v := ?_) 1 ?_ ?_ (hQ := by exact panQ_put (by decide) (by decide))
          rotate_left
          · intro w hSw
            (try dsimp only at hSw)
            first | (go_simp; done) | (go_simp; with_reducible rfl) | with_reducible rfl
          simp only [Act.put, List.setIfInBounds_toArray, List.set_cons_zero, List.set_cons_succ]
          refine tk (v := ?_) 2 ?_ ?_ (hQ := by exact panQ_put (by decide) (by decide))
          rotate_left
          · intro w hSw
            (try dsimp only at hSw)
            first | (go_simp; done) | (go_simp; with_reducible rfl) | with_reducible rfl
          simp only [Act.put, List.setIfInBounds_toArray, List.set_cons_zero, List.set_cons_succ]
          refine tk (v := ?_) 3 ?_ ?_ (hQ := by exact panQ_put (by decide) (by decide))
          rotate_left
          · intro w hSw
            (try dsimp only at hSw)
            first | (go_simp; done) | (go_simp; with_reducible rfl) | with_reducible rfl
          simp only [Act.put, List.setIfInBounds_toArray, List.set_cons_zero, List.set_cons_succ]
          refine tk (v := ?_) 4 ?_ ?_ (hQ := by exact panQ_put (by decide) (by decide))
          rotate_left
          · intro w hSw
            (try dsimp only at hSw)
            first | (go_simp; done) | (go_simp; with_reducible rfl) | with_reducible rfl
          simp only [Act.put, List.setIfInBounds_toArray, List.set_cons_zero, List.set_cons_succ]
          refine tk (v := ?_) 6 ?_ ?_ (hQ := by exact panQ_put (by decide) (by decide))
          rotate_left
          · intro w hSw
            (try dsimp only at hSw)
            first | (go_simp; done) | (go_simp; with_reducible rfl) | with_reducible rfl
          simp only [Act.put, List.setIfInBounds_toArray, List.set_cons_zero, List.set_cons_succ]
          refine tk (v := ?_) 7 ?_ ?_ (hQ := by exact panQ_put (by decide) (by decide))
          rotate_left
          · intro w hSw
            (try dsimp only at hSw)
            first | (go_simp; done) | (go_simp; with_reducible rfl) | with_reducible rfl
          simp only [Act.put, List.setIfInBounds_toArray, List.set_cons_zero, List.set_cons_succ]
          refine tk (v := ?_) 8 ?_ ?_ (hQ := by exact panQ_put (by decide) (by decide))
          rotate_left
          · intro w hSw
            (try dsimp only at hSw)
            first | (go_simp; done) | (go_simp; with_reducible rfl) | with_reducible rfl
          simp only [Act.put, List.setIfInBounds_toArray, List.set_cons_zero, List.set_cons_succ]
          refine tk (v := ?_) 9 ?_ ?_ (hQ := by exact panQ_put (by decide) (by decide))
          rotate_left
          · intro w hSw
            (try dsimp only at hSw)
            first | (go_simp; done) | (go_simp; with_reducible rfl) | with_reducible rfl
          simp only [Act.put, List.setIfInBounds_toArray, List.set_cons_zero, List.set_cons_succ]
          refine tk (v := ?_) 10 ?_ ?_ (hQ := by exact panQ_put (by decide) (by decide))
          rotate_left
          · intro w hSw
            (try dsimp only at hSw)
            first | (go_simp; done) | (go_simp; with_reducible rfl) | with_reducible rfl
          simp only [Act.put, List.setIfInBounds_toArray, List.set_cons_zero, List.set_cons_succ]
          refine wpAnyH_ready (rs := [5]) (by kernel_rfl) (by simp) ?_
          refine AllReadyH.cons (by simp only [List.getElem?_toArray, List.getElem?_cons_succ, List.getElem?_cons_zero]; rfl) (fun K hK => ?_) AllReadyH.nil
          go_simp
          (go_at_call 36; refine (HT1.out _ _ J4.out.drew.bC).mono ?_; rintro e w5 ⟨rfl, hb5, m5⟩; have J5 := hid (J4.out.drew.common hb5 m5))
          try dsimp only
          refine hK.out _ _ J5.out.held (fun hHeld5 => ?_)
          clear hK K hb5 m5
          try simp only [Act.put, List.setIfInBounds_toArray, List.set_cons_zero, List.set_cons_succ]
          refine tk (v := ?_) 12 ?_ ?_ (hQ := by exact panQ_put (by decide) (by decide))
          rotate_left
          · intro w hSw
            (try dsimp only at hSw)
            first | (go_simp; done) | (go_simp; with_reducible rfl) | with_reducible rfl
          simp only [Act.put, List.setIfInBounds_toArray, List.set_cons_zero, List.set_cons_succ]
          refine wpAnyH_ready (rs := [11]) (by kernel_rfl) (by simp) ?_
          refine AllReadyH.cons (by simp only [List.getElem?_toArray, List.getElem?_cons_succ, List.getElem?_cons_zero]; rfl) (fun K hK => ?_) AllReadyH.nil
          go_simp
          (go_at_call 36; refine (HT.out _ _).mono ?_; rintro e w9 ⟨rfl, rfl⟩)
          try dsimp only
          exact ⟨rfl, rfl, rfl, HX.out, rfl, J5.out.bM, J5.out.bE, J5.out.new⟩
        | false =>
          have HT1 := hid (fun C W hb => jtop_yes C false a.old b.old W hco hb)
          have HO3 := hid (fun W (n : New w W) => onceS_any ta tb tc td a.tr b.tr 10 W (h.tr.new n) (k.tr.new n) hp.tr hq.tr (by have := hoka.trl; have := hokb.trl; omega) (by omega))
          have HO5 := hid (fun W (n : New w W) => onceS_any sa sb sc sd a.ws b.ws 10 W (h.ws.new n) (k.ws.new n) hp.ws hq.ws (by have := hoka.wsl; have := hokb.wsl; omega) (by omega))
          have HO4 := hid (fun W (n : New w W) => onceA_any pa pb pc pd a.pe b.pe 20 W (h.pe.new n) (k.pe.new n) hp.pe hq.pe (by have := hoka.pel; have := hokb.pel; omega) (by omega))
          rw [show ((10 : Nat) : Int) = 10 from rfl] at HO3 HO5
          rw [show ((20 : Nat) : Int) = 20 from rfl] at HO4
          have HFA := hid (fun W (n : New w W) => bFrom_any 40 a.on (.slice oa a.on.length oc) W (h.on.new n).runs (by omega))
          have HFB := hid (fun W (n : New w W) => bFrom_any 40 b.on (.slice ob b.on.length od) W (k.on.new n).runs (by omega))
          obtain ⟨S, hS, hfs, -⟩ := onB_field hoka.on
          obtain ⟨T, hT, hft, -⟩ := onB_field hokb.on
          rw [hfs] at HFA
          rw [hft] at HFB
          have HOR := hid (fun W => bOr_any 40 (mkB S) (mkB T) W hS hT (by omega))
          rw [show (mkB S).data.toList = S from rfl, show (mkB T).data.toList = T from rfl] at HOR
          have HRU := hid (fun W => bRuns_any 40 (mkB (orL S T)) W (hS.or hT) (by omega))
          rw [show (mkB (orL S T)).data.toList = orL S T from rfl] at HRU
          obtain ⟨J, hJ⟩ : ∃ J, J = joinV a b := ⟨_, rfl⟩
          have HSM := hid (show ∀ x ∈ J.pe, x.ip.size ≤ maxLen from fun x hx => by
            rw [hJ] at hx
            rcases List.mem_append.1 (mem_onceL.1 hx) with e | e
            · exact h.pe.small x e
            · exact k.pe.small x e)
          have HJN := hid (show a.on = [] ∨ b.on = [] → J.on = [] from fun e => by rw [hJ]; show joinOn a.on b.on = []; unfold joinOn; rw [if_pos e])
          have HJY := hid (show ¬ (a.on = [] ∨ b.on = []) → J.on = runsF 40 (orL S T) from fun e => by rw [hJ]; show joinOn a.on b.on = _; unfold joinOn; rw [if_neg e, hfs, hft])
          have HNM := hid (show J.name = if a.name.size = 0 then b.name else a.name by rw [hJ]; rfl)
          rw [← hJ] at HXGO
          rw [show onceL (a.tr ++ b.tr) = J.tr by rw [hJ]; rfl] at HO3
          rw [show onceL (a.ws ++ b.ws) = J.ws by rw [hJ]; rfl] at HO5
          rw [show onceL (a.pe ++ b.pe) = J.pe by rw [hJ]; rfl] at HO4
          rw [show topJ a.old b.old = J.old by rw [hJ]; rfl] at HT1
          clear hfs hft
          have HT2 := hid (fun C cm W hb => jtop_yes C cm a.new b.new W hcn hb)
          rw [show topJ a.new b.new = J.new by rw [hJ]; rfl] at HT2
          obtain ⟨cm, hcm⟩ : ∃ cm, cm = (comJ a.old b.old || comJ a.new b.new) := ⟨_, rfl⟩
          rw [hco, hcn, ← hcm] at HX10 HXGO
          have HCM := hid hcm
          clear hco hcn hcm hJ h k hp hq hoka hokb hS hT
          go_enter_defers Tryz.func13, Tryz.ntmps13
          go_wp2_with fail
          refine name_worldA (p := fun W => Calls _ _ _ W _) (fun W1 hW1 => ?_)
          have A1x : Blk W1 w.heap.size #[.string a.old, .string a.new, .string a.name, .slice ta a.tr.length tc, .slice pa a.pe.length pc, .slice sa a.ws.length sc, .slice oa a.on.length oc] 27 := by
            rw [hW1]
            apply Blk.row
            · repeat (first | with_reducible exact hW1 | (with_reducible apply Blk.newAt; (simp; done)) | with_reducible apply Blk.alloc | with_reducible apply Blk.drew | with_reducible apply Blk.drewN | with_reducible apply Blk.set | (with_reducible apply Blk.other; · first | (simp; done) | (simp; omega) | omega) | (with_reducible apply Blk.putObj; · first | (simp; done) | (simp; omega) | omega))
            · rfl
          have B1x : Blk W1 (w.heap.size + 1) #[.string b.old, .string b.new, .string b.name, .slice tb b.tr.length td, .slice pb b.pe.length pd, .slice sb b.ws.length sd, .slice ob b.on.length od] 27 := by
            rw [hW1]
            apply Blk.row
            · repeat (first | with_reducible exact hW1 | (with_reducible apply Blk.newAt; (simp; done)) | with_reducible apply Blk.alloc | with_reducible apply Blk.drew | with_reducible apply Blk.drewN | with_reducible apply Blk.set | (with_reducible apply Blk.other; · first | (simp; done) | (simp; omega) | omega) | (with_reducible apply Blk.putObj; · first | (simp; done) | (simp; omega) | omega))
            · rfl
          have M1x : Blk W1 (w.heap.size + 1 + 1) zeroMg 27 := by
            rw [hW1]
            apply Blk.row
            · repeat (first | with_reducible exact hW1 | (with_reducible apply Blk.newAt; (simp; done)) | with_reducible apply Blk.alloc | with_reducible apply Blk.drew | with_reducible apply Blk.drewN | with_reducible apply Blk.set | (with_reducible apply Blk.other; · first | (simp; done) | (simp; omega) | omega) | (with_reducible apply Blk.putObj; · first | (simp; done) | (simp; omega) | omega))
            · rfl
          have E1x : Blk W1 (w.heap.size + 1 + 1 + 1) #[.int .i64 0] 28 := by
            rw [hW1]
            apply Blk.row
            · repeat (first | with_reducible exact hW1 | (with_reducible apply Blk.newAt; (simp; done)) | with_reducible apply Blk.alloc | with_reducible apply Blk.drew | with_reducible apply Blk.drewN | with_reducible apply Blk.set | (with_reducible apply Blk.other; · first | (simp; done) | (simp; omega) | omega) | (with_reducible apply Blk.putObj; · first | (simp; done) | (simp; omega) | omega))
            · rfl
          have N1x : New w W1 := by
            rw [hW1]
            repeat (first | with_reducible exact Mod.refl _ w | with_reducible refine Mod.alloc ?_ _ | with_reducible refine Mod.drew ?_ | with_reducible refine Mod.drewN ?_ _ | (with_reducible refine Mod.set ?_ _ _ (by first | exact .inl rfl | (right; omega) | (right; simp; done) | (right; simp; omega) | (left; omega) | (left; simp; done) | (left; simp; omega))) | (with_reducible refine Mod.putObj ?_ _ _ (by first | exact .inl rfl | (right; omega) | (right; simp; done) | (right; simp; omega) | (left; omega) | (left; simp; done) | (left; simp; omega))))
          have A1 := hid A1x; have B1 := hid B1x; have M1 := hid M1x; have E1 := hid E1x; have N1 := hid N1x
          clear hW1 A1x B1x M1x E1x N1x
          refine (HVA.out _ N1.out).mono ?_
          rintro e w2 ⟨rfl, n2⟩
          have A2 := hid (New.blk n2 A1.out); have B2 := hid (New.blk n2 B1.out); have M2 := hid (New.blk n2 M1.out); have E2 := hid (New.blk n2 E1.out); have N2 := hid (N1.out.trans n2)
          clear n2
          have b0 : w2.cell? ⟨w.heap.size + 1, 0, none⟩ = some (.string b.old) := B2.out.cellv 0 rfl
          have b1 : w2.cell? ⟨w.heap.size + 1, 1, none⟩ = some (.string b.new) := B2.out.cellv 1 rfl
          have b2 : w2.cell? ⟨w.heap.size + 1, 2, none⟩ = some (.string b.name) := B2.out.cellv 2 rfl
          have b3 : w2.cell? ⟨w.heap.size + 1, 3, none⟩ = some (.slice tb b.tr.length td) := B2.out.cellv 3 rfl
          have b4 : w2.cell? ⟨w.heap.size + 1, 4, none⟩ = some (.slice pb b.pe.length pd) := B2.out.cellv 4 rfl
          have b5 : w2.cell? ⟨w.heap.size + 1, 5, none⟩ = some (.slice sb b.ws.length sd) := B2.out.cellv 5 rfl
          have b6 : w2.cell? ⟨w.heap.size + 1, 6, none⟩ = some (.slice ob b.on.length od) := B2.out.cellv 6 rfl
          go_wp2_with fail
          refine (HVB.out _ N2.out).mono ?_
          rintro e w3 ⟨rfl, n3⟩
          have A3 := hid (New.blk n3 A2.out); have B3 := hid (New.blk n3 B2.out); have M3 := hid (New.blk n3 M2.out); have E3 := hid (New.blk n3 E2.out); have N3 := hid (N2.out.trans n3)
          clear n3 b0 b1 b2 b3 b4 b5 b6
          go_wp2_with fail
          refine (need_yes 1 _).mono ?_
          rintro e w4 ⟨rfl, rfl⟩
          go_wp2_with fail
          refine name_worldA (p := fun W => Code.wp _ _ _ _ W) (fun W4 hW4 => ?_)
          have J4x : JS w W4 a b ⟨ta, tc, pa, pc, sa, sc, oa, oc⟩ ⟨tb, td, pb, pd, sb, sd, ob, od⟩ w3.heap.size (w3.heap.size + 1) false zeroMg := by
            have s1 := E3.out.lt
            refine ⟨?_, ?_, ?_, ?_, ?_, ?_, by omega, by omega, ?_⟩
            · rw [hW4]
              apply Blk.row
              · repeat (first | with_reducible exact A3.out | (with_reducible apply Blk.newAt; (simp; done)) | with_reducible apply Blk.alloc | with_reducible apply Blk.drew | with_reducible apply Blk.drewN | with_reducible apply Blk.set | (with_reducible apply Blk.other; · first | (simp; done) | (simp; omega) | omega) | (with_reducible apply Blk.putObj; · first | (simp; done) | (simp; omega) | omega))
              · rfl
            · rw [hW4]
              apply Blk.row
              · repeat (first | with_reducible exact B3.out | (with_reducible apply Blk.newAt; (simp; done)) | with_reducible apply Blk.alloc | with_reducible apply Blk.drew | with_reducible apply Blk.drewN | with_reducible apply Blk.set | (with_reducible apply Blk.other; · first | (simp; done) | (simp; omega) | omega) | (with_reducible apply Blk.putObj; · first | (simp; done) | (simp; omega) | omega))
              · rfl
            · rw [hW4]
              apply Blk.row
              · repeat (first | with_reducible exact M3.out | (with_reducible apply Blk.newAt; (simp; done)) | with_reducible apply Blk.alloc | with_reducible apply Blk.drew | with_reducible apply Blk.drewN | with_reducible apply Blk.set | (with_reducible apply Blk.other; · first | (simp; done) | (simp; omega) | omega) | (with_reducible apply Blk.putObj; · first | (simp; done) | (simp; omega) | omega))
              · rfl
            · rw [hW4]
              apply Blk.row
              · repeat (first | with_reducible exact E3.out | (with_reducible apply Blk.newAt; (simp; done)) | with_reducible apply Blk.alloc | with_reducible apply Blk.drew | with_reducible apply Blk.drewN | with_reducible apply Blk.set | (with_reducible apply Blk.other; · first | (simp; done) | (simp; omega) | omega) | (with_reducible apply Blk.putObj; · first | (simp; done) | (simp; omega) | omega))
              · rfl
            · rw [hW4]
              apply Blk.row
              · repeat (first | with_reducible exact hW4 | (with_reducible apply Blk.newAt; (simp; done)) | with_reducible apply Blk.alloc | with_reducible apply Blk.drew | with_reducible apply Blk.drewN | with_reducible apply Blk.set | (with_reducible apply Blk.other; · first | (simp; done) | (simp; omega) | omega) | (with_reducible apply Blk.putObj; · first | (simp; done) | (simp; omega) | omega))
              · rfl
            · rw [hW4]
              apply Blk.row
              · repeat (first | with_reducible exact hW4 | (with_reducible apply Blk.newAt; (simp; done)) | with_reducible apply Blk.alloc | with_reducible apply Blk.drew | with_reducible apply Blk.drewN | with_reducible apply Blk.set | (with_reducible apply Blk.other; · first | (simp; done) | (simp; omega) | omega) | (with_reducible apply Blk.putObj; · first | (simp; done) | (simp; omega) | omega))
              · rfl
            · have q := N3.out
              rw [hW4]
              repeat (first | with_reducible exact q | with_reducible refine Mod.alloc ?_ _ | with_reducible refine Mod.drew ?_ | with_reducible refine Mod.drewN ?_ _ | (with_reducible refine Mod.set ?_ _ _ (by first | exact .inl rfl | (right; omega) | (right; simp; done) | (right; simp; omega) | (left; omega) | (left; simp; done) | (left; simp; omega))) | (with_reducible refine Mod.putObj ?_ _ _ (by first | exact .inl rfl | (right; omega) | (right; simp; done) | (right; simp; omega) | (left; omega) | (left; simp; done) | (left; simp; omega))))
          have J4 := hid J4x
          obtain ⟨C, hC⟩ : ∃ C, C = w3.heap.size := ⟨_, rfl⟩
          rw [← hC] at J4 ⊢
          clear hW4 J4x hC
          refine wp_region_panQ (fun w' => w'.cell? ⟨w.heap.size, 0, none⟩ = some (.string a.old) ∧ w'.cell? ⟨w.heap.size + 1, 0, none⟩ = some (.string b.old) ∧ w'.cell? ⟨w.heap.size, 1, none⟩ = some (.string a.new) ∧ w'.cell? ⟨w.heap.size + 1, 1, none⟩ = some (.string b.new))
            [{ target := .fn (.func 21) #[], args := #[.pointer (some ⟨w.heap.size + 1 + 1 + 1, 0, none⟩)] }] 4 5 (.pointer (some ⟨w.heap.size + 1 + 1, 0, none⟩)) (.pointer (some ⟨w.heap.size + 1 + 1 + 1, 0, none⟩))
            (fun c W => X = .error 10 ∧ c = toldM 10 ∧ Blk W (w.heap.size + 1 + 1) zeroMg 27 ∧ Blk W (w.heap.size + 1 + 1 + 1) #[.int .i64 0] 28 ∧ New w W) (by kernel_rfl) J4.out.drew.held ?hpan (fun hHeld => ?_)
          case hpan =>
            rintro c act W hd h4 h5 ⟨hx, rfl, hM, hE, hn⟩
            show Leaves _ _ act.tmps _ act.defers _ W
            rw [hd]
            exact join_caught hx hM hE hn h4 h5
          refine tk (v := ?_) 0 ?_ ?_ (hQ := by exact panQ_put (by decide) (by decide))
          rotate_left
          · intro w hSw
            (try dsimp only at hSw)
            first | (go_simp; done) | (go_simp; with_reducible rfl) | with_reducible rfl
          simp only [Act.put, List.setIfInBounds_toArray, List.set_cons_zero, List.set_cons_succ]
          refine tk (v := ?_) 1 ?_ ?_ (hQ := by exact panQ_put (by decide) (by decide))
          rotate_left
          · intro w hSw
            (try dsimp only at hSw)
            first | (go_simp; done) | (go_simp; with_reducible rfl) | with_reducible rfl
          simp only [Act.put, List.setIfInBounds_toArray, List.set_cons_zero, List.set_cons_succ]
          refine tk (v := ?_) 2 ?_ ?_ (hQ := by exact panQ_put (by decide) (by decide))
          rotate_left
          · intro w hSw
            (try dsimp only at hSw)
            first | (go_simp; done) | (go_simp; with_reducible rfl) | with_reducible rfl
          simp only [Act.put, List.setIfInBounds_toArray, List.set_cons_zero, List.set_cons_succ]
          refine tk (v := ?_) 3 ?_ ?_ (hQ := by exact panQ_put (by decide) (by decide))
          rotate_left
          · intro w hSw
            (try dsimp only at hSw)
            first | (go_simp; done) | (go_simp; with_reducible rfl) | with_reducible rfl
          simp only [Act.put, List.setIfInBounds_toArray, List.set_cons_zero, List.set_cons_succ]
          refine tk (v := ?_) 4 ?_ ?_ (hQ := by exact panQ_put (by decide) (by decide))
          rotate_left
          · intro w hSw
            (try dsimp only at hSw)
            first | (go_simp; done) | (go_simp; with_reducible rfl) | with_reducible rfl
          simp only [Act.put, List.setIfInBounds_toArray, List.set_cons_zero, List.set_cons_succ]
          refine tk (v := ?_) 6 ?_ ?_ (hQ := by exact panQ_put (by decide) (by decide))
          rotate_left
          · intro w hSw
            (try dsimp only at hSw)
            first | (go_simp; done) | (go_simp; with_reducible rfl) | with_reducible rfl
          simp only [Act.put, List.setIfInBounds_toArray, List.set_cons_zero, List.set_cons_succ]
          refine tk (v := ?_) 7 ?_ ?_ (hQ := by exact panQ_put (by decide) (by decide))
          rotate_left
          · intro w hSw
            (try dsimp only at hSw)
            first | (go_simp; done) | (go_simp; with_reducible rfl) | with_reducible rfl
          simp only [Act.put, List.setIfInBounds_toArray, List.set_cons_zero, List.set_cons_succ]
          refine tk (v := ?_) 8 ?_ ?_ (hQ := by exact panQ_put (by decide) (by decide))
          rotate_left
          · intro w hSw
            (try dsimp only at hSw)
            first | (go_simp; done) | (go_simp; with_reducible rfl) | with_reducible rfl
          simp only [Act.put, List.setIfInBounds_toArray, List.set_cons_zero, List.set_cons_succ]
          refine tk (v := ?_) 9 ?_ ?_ (hQ := by exact panQ_put (by decide) (by decide))
          rotate_left
          · intro w hSw
            (try dsimp only at hSw)
            first | (go_simp; done) | (go_simp; with_reducible rfl) | with_reducible rfl
          simp only [Act.put, List.setIfInBounds_toArray, List.set_cons_zero, List.set_cons_succ]
          refine tk (v := ?_) 10 ?_ ?_ (hQ := by exact panQ_put (by decide) (by decide))
          rotate_left
          · intro w hSw
            (try dsimp only at hSw)
            first | (go_simp; done) | (go_simp; with_reducible rfl) | with_reducible rfl
          simp only [Act.put, List.setIfInBounds_toArray, List.set_cons_zero, List.set_cons_succ]
          refine wpAnyH_ready (rs := [5]) (by kernel_rfl) (by simp) ?_
          refine AllReadyH.cons (by simp only [List.getElem?_toArray, List.getElem?_cons_succ, List.getElem?_cons_zero]; rfl) (fun K hK => ?_) AllReadyH.nil
          go_simp
          (go_at_call 36; refine (HT1.out _ _ J4.out.drew.bC).mono ?_; rintro e w5 ⟨rfl, hb5, m5⟩; have J5 := hid (J4.out.drew.common hb5 m5))
          try dsimp only
          refine hK.out _ _ J5.out.held (fun hHeld5 => ?_)
          clear hK K hb5 m5
          try simp only [Act.put, List.setIfInBounds_toArray, List.set_cons_zero, List.set_cons_succ]
          refine tk (v := ?_) 12 ?_ ?_ (hQ := by exact panQ_put (by decide) (by decide))
          rotate_left
          · intro w hSw
            (try dsimp only at hSw)
            first | (go_simp; done) | (go_simp; with_reducible rfl) | with_reducible rfl
          simp only [Act.put, List.setIfInBounds_toArray, List.set_cons_zero, List.set_cons_succ]
          refine wpAnyH_ready (rs := [11]) (by kernel_rfl) (by simp) ?_
          refine AllReadyH.cons (by simp only [List.getElem?_toArray, List.getElem?_cons_succ, List.getElem?_cons_zero]; rfl) (fun K hK => ?_) AllReadyH.nil
          go_simp
          (go_at_call 36; refine (HT2.out _ _ _ J5.out.bC).mono ?_; rintro e w6 ⟨rfl, hb6, m6⟩; have J6 := hid (J5.out.common hb6 m6))
          try dsimp only
          refine hK.out _ _ J6.out.held (fun hHeld6 => ?_)
          clear hK K hb6 m6
          try simp only [Act.put, List.setIfInBounds_toArray, List.set_cons_zero, List.set_cons_succ]
          rw [Bool.false_or, ← HCM.out] at J6
          have ol := J6.out.bO.lt; have of := J6.out.bO.frz
          have J7 := hid (J6.out.set 0 (.string J.old))
          have J8 := hid (J7.out.set 1 (.string J.new))
          have o0 := J6.out.bO.cellv 0 rfl; have o1 := J6.out.bO.cellv 1 rfl
          refine wpAnyH_ready (rs := [13]) (by kernel_rfl) (by simp) ?_
          refine AllReadyH.cons (by simp only [List.getElem?_toArray, List.getElem?_cons_succ, List.getElem?_cons_zero]; rfl) (fun K hK => ?_) AllReadyH.nil
          go_simp
          refine hK.out _ _ J7.out.held (fun hHeld13 => ?_)
          clear hK K
          try simp only [Act.put, List.setIfInBounds_toArray, List.set_cons_zero, List.set_cons_succ]
          refine tk (v := ?_) 14 ?_ ?_ (hQ := by exact panQ_put (by decide) (by decide))
          rotate_left
          · intro w hSw
            (try dsimp only at hSw)
            first | (go_simp; done) | (go_simp; with_reducible rfl) | with_reducible rfl
          simp only [Act.put, List.setIfInBounds_toArray, List.set_cons_zero, List.set_cons_succ]
          refine wpAnyH_ready (rs := [15]) (by kernel_rfl) (by simp) ?_
          refine AllReadyH.cons (by simp only [List.getElem?_toArray, List.getElem?_cons_succ, List.getElem?_cons_zero]; rfl) (fun K hK => ?_) AllReadyH.nil
          go_simp
          refine hK.out _ _ J8.out.held (fun hHeld15 => ?_)
          clear hK K
          try simp only [Act.put, List.setIfInBounds_toArray, List.set_cons_zero, List.set_cons_succ]
          refine wpAnyH_done (by kernel_rfl) (panQ_ok ?_) _
          obtain ⟨W8, hW8⟩ : ∃ W8, W8 = (w6.setCell ⟨C + 1, 0, none⟩ (.string J.old)).setCell ⟨C + 1, 1, none⟩ (.string J.new) := ⟨_, rfl⟩
          rw [← hW8] at J8 ⊢
          clear hW8 o0 o1 ol of hHeld hHeld5 hHeld6 hHeld13 hHeld15
          have c0 : W8.cell? ⟨C, 0, none⟩ = some (.bool cm) := J8.out.bC.cellv 0 rfl
          cases cm with
          | false =>
            have HX := hid (HX10.out rfl)
            go_wp2_with fail
            refine (need_no 10 _).mono ?_
            rintro e w9 ⟨rfl, rfl⟩
            go_wp2
            exact join_caught HX.out J8.out.bM J8.out.bE J8.out.new rfl rfl
          | true =>
            have HXG := hid (HXGO.out rfl)
            go_wp2_with fail
            refine (need_yes 10 _).mono ?_
            rintro e w9 ⟨rfl, rfl⟩
            clear c0
            have a2 : W8.cell? ⟨w.heap.size, 2, none⟩ = some (.string a.name) := J8.out.bA.cellv 2 rfl
            have b2 : W8.cell? ⟨w.heap.size + 1, 2, none⟩ = some (.string b.name) := J8.out.bB.cellv 2 rfl
            have ol := J8.out.bO.lt; have of := J8.out.bO.frz; have o2 := J8.out.bO.cellv 2 rfl
            have hCC := J8.out.hC
            have hne : ¬ w.heap.size = C := by omega
            have hne' : ¬ C = w.heap.size := by omega
            by_cases hn : a.name.size = 0
            · obtain ⟨x1, x2, x3, -⟩ := strE hn
              have HNE := hid (show b.name = J.name by rw [HNM.out, if_pos hn])
              clear hn
              go_upto_region 11 with fail
              refine name_worldA (p := fun W => Code.wp _ _ _ _ W) (fun W9 hW9 => ?_)
              have J9 := hid (show JS w W9 a b ⟨ta, tc, pa, pc, sa, sc, oa, oc⟩ ⟨tb, td, pb, pd, sb, sd, ob, od⟩ C (C + 1) true #[.string J.old, .string J.new, .string J.name, .slice none 0 0, .slice none 0 0, .slice none 0 0, .slice none 0 0] by rw [hW9, ← HNE.out]; exact ((J8.out.set 2 _).set 2 _).row rfl)
              clear hW9 x1 x2 x3 a2 b2 ol of o2 hCC hne hne'
              have L9 := hid (JL.zero W9 (C + 2))
              have xa3 : W9.cell? ⟨w.heap.size, 3, none⟩ = some (.slice ta a.tr.length tc) := J9.out.bA.cellv 3 rfl
              have xb3 : W9.cell? ⟨w.heap.size + 1, 3, none⟩ = some (.slice tb b.tr.length td) := J9.out.bB.cellv 3 rfl
              by_cases hl : J.tr.length ≤ 10
              rotate_left
              · have HX := hid (show X = .error 4 by rw [HXG.out, if_pos (.inl (by omega))])
                go_wp2_with fail
                refine (HO3.out _ J9.out.new).mono ?_
                rintro e w10 ⟨hq10, n10⟩
                rcases hq10 with ⟨q, -⟩ | ⟨-, rfl⟩
                · exact absurd q hl
                have J10 := hid (J9.out.next n10)
                clear n10
                go_wp2
                exact join_caught HX.out J10.out.bM J10.out.bE J10.out.new rfl rfl
              have HLE3 := hid hl
              clear hl
              go_wp2_with fail
              refine (HO3.out _ J9.out.new).mono ?_
              rintro e w10 ⟨hq10, n10⟩
              rcases hq10 with ⟨-, v, rfl, ho⟩ | ⟨q, -⟩
              rotate_left
              · exact absurd HLE3.out (by omega)
              have J10 := hid (J9.out.next n10)
              have hD10 : C + 2 ≤ W9.heap.size := by have := J9.out.bO.lt; omega
              have L10 := hid (show JL w10 (C + 2) _ _ _ _ _ _ _ _ from ⟨ho.base hD10, (L9.out.next n10).p, (L9.out.next n10).s, (L9.out.next n10).o⟩)
              obtain ⟨ua, uc, rfl, -⟩ := OwnS.at4 ho
              clear n10 ho xa3 xb3 hD10
              have ol := J10.out.bO.lt; have of := J10.out.bO.frz 3; have o3 := J10.out.bO.cellv 3 rfl
              go_upto_region 12 with fail
              refine name_worldA (p := fun W => Code.wp _ _ _ _ W) (fun W12 hWB => ?_)
              have J12 := hid (show JS w W12 a b _ _ C (C + 1) true _ by rw [hWB]; exact J10.out.set 3 _)
              have L12 := hid (show JL W12 (C + 2) _ _ _ _ _ _ _ _ by rw [hWB]; exact L10.out.mod (setMod (by omega)))
              clear hWB ol of o3 J10 L10
              have xa5 : W12.cell? ⟨w.heap.size, 5, none⟩ = some (.slice sa a.ws.length sc) := J12.out.bA.cellv 5 rfl
              have xb5 : W12.cell? ⟨w.heap.size + 1, 5, none⟩ = some (.slice sb b.ws.length sd) := J12.out.bB.cellv 5 rfl
              by_cases hl : J.ws.length ≤ 10
              rotate_left
              · have HX := hid (show X = .error 4 by rw [HXG.out, if_pos (.inr (.inl (by omega)))])
                go_wp2_with fail
                refine (HO5.out _ J12.out.new).mono ?_
                rintro e w10 ⟨hq10, n10⟩
                rcases hq10 with ⟨q, -⟩ | ⟨-, rfl⟩
                · exact absurd q hl
                have J10 := hid (J12.out.next n10)
                clear n10
                go_wp2
                exact join_caught HX.out J10.out.bM J10.out.bE J10.out.new rfl rfl
              have HLE5 := hid hl
              clear hl
              go_wp2_with fail
              refine (HO5.out _ J12.out.new).mono ?_
              rintro e w10 ⟨hq10, n10⟩
              rcases hq10 with ⟨-, v, rfl, ho⟩ | ⟨q, -⟩
              rotate_left
              · exact absurd HLE5.out (by omega)
              have J10 := hid (J12.out.next n10)
              have hD10 : C + 2 ≤ W12.heap.size := by have := J12.out.bO.lt; omega
              have L10 := hid (show JL w10 (C + 2) _ _ _ _ _ _ _ _ from ⟨(L12.out.next n10).t, (L12.out.next n10).p, ho.base hD10, (L12.out.next n10).o⟩)
              obtain ⟨va, vc, rfl, -⟩ := OwnS.at4 ho
              clear n10 ho xa5 xb5 hD10
              have ol := J10.out.bO.lt; have of := J10.out.bO.frz 5; have o5 := J10.out.bO.cellv 5 rfl
              go_upto_region 13 with fail
              refine name_worldA (p := fun W => Code.wp _ _ _ _ W) (fun W13 hWB => ?_)
              have J13 := hid (show JS w W13 a b _ _ C (C + 1) true _ by rw [hWB]; exact J10.out.set 5 _)
              have L13 := hid (show JL W13 (C + 2) _ _ _ _ _ _ _ _ by rw [hWB]; exact L10.out.mod (setMod (by omega)))
              clear hWB ol of o5 J10 L10
              have xa4 : W13.cell? ⟨w.heap.size, 4, none⟩ = some (.slice pa a.pe.length pc) := J13.out.bA.cellv 4 rfl
              have xb4 : W13.cell? ⟨w.heap.size + 1, 4, none⟩ = some (.slice pb b.pe.length pd) := J13.out.bB.cellv 4 rfl
              by_cases hl : J.pe.length ≤ 20
              rotate_left
              · have HX := hid (show X = .error 4 by rw [HXG.out, if_pos (.inr (.inr (by omega)))])
                go_wp2_with fail
                refine (HO4.out _ J13.out.new).mono ?_
                rintro e w10 ⟨hq10, n10⟩
                rcases hq10 with ⟨q, -⟩ | ⟨-, rfl⟩
                · exact absurd q hl
                have J10 := hid (J13.out.next n10)
                clear n10
                go_wp2
                exact join_caught HX.out J10.out.bM J10.out.bE J10.out.new rfl rfl
              have HLE4 := hid hl
              clear hl
              go_wp2_with fail
              refine (HO4.out _ J13.out.new).mono ?_
              rintro e w10 ⟨hq10, n10⟩
              rcases hq10 with ⟨-, v, rfl, ho⟩ | ⟨q, -⟩
              rotate_left
              · exact absurd HLE4.out (by omega)
              have J10 := hid (J13.out.next n10)
              have hD10 : C + 2 ≤ W13.heap.size := by have := J13.out.bO.lt; omega
              have L10 := hid (show JL w10 (C + 2) _ _ _ _ _ _ _ _ from ⟨(L13.out.next n10).t, ho.base hD10, (L13.out.next n10).s, (L13.out.next n10).o⟩)
              obtain ⟨wa, wc, rfl, -⟩ := OwnA.at4 ho HSM.out
              clear n10 ho xa4 xb4 hD10
              have ol := J10.out.bO.lt; have of := J10.out.bO.frz 4; have o4 := J10.out.bO.cellv 4 rfl
              go_upto_region 14 with fail
              refine name_worldA (p := fun W => Code.wp _ _ _ _ W) (fun W14 hWB => ?_)
              have J14 := hid (show JS w W14 a b _ _ C (C + 1) true _ by rw [hWB]; exact J10.out.set 4 _)
              have L14 := hid (show JL W14 (C + 2) _ _ _ _ _ _ _ _ by rw [hWB]; exact L10.out.mod (setMod (by omega)))
              clear hWB ol of o4 J10 L10
              have HX := hid (show X = .ok J by rw [HXG.out, if_neg (by have := HLE3.out; have := HLE4.out; have := HLE5.out; omega)])
              have xa : W14.cell? ⟨w.heap.size, 6, none⟩ = some (.slice oa a.on.length oc) := J14.out.bA.cellv 6 rfl
              have xb : W14.cell? ⟨w.heap.size + 1, 6, none⟩ = some (.slice ob b.on.length od) := J14.out.bB.cellv 6 rfl
              by_cases ha0 : a.on.length = 0
              · have HON := hid (HJN.out (.inl (List.eq_nil_of_length_eq_zero ha0)))
                have hi0 : ¬ (0 : Int) < (a.on.length : Int) := by omega
                clear ha0
                go_upto_region 19 with fail
                clear xa xb hi0
                rw [← HON.out] at L14
                have o0 := J14.out.bO.cellv 0 rfl; have o1 := J14.out.bO.cellv 1 rfl; have o2 := J14.out.bO.cellv 2 rfl; have o3 := J14.out.bO.cellv 3 rfl; have o4 := J14.out.bO.cellv 4 rfl; have o5 := J14.out.bO.cellv 5 rfl; have o6 := J14.out.bO.cellv 6 rfl
                have m0 := J14.out.bM.cellv 0 rfl; have m1 := J14.out.bM.cellv 1 rfl; have m2 := J14.out.bM.cellv 2 rfl; have m3 := J14.out.bM.cellv 3 rfl; have m4 := J14.out.bM.cellv 4 rfl; have m5 := J14.out.bM.cellv 5 rfl; have m6 := J14.out.bM.cellv 6 rfl
                have ml := J14.out.bM.lt; have mf := J14.out.bM.frz
                obtain ⟨e1, e2, e3⟩ := J14.out.bE.one
                have hCC := J14.out.hC
                go_wp2
                refine name_worldA (p := fun W => Leaves _ _ _ _ _ _ W) (fun WF hWF => ?_)
                refine join_end (D := C + 2) HX.out ?_ ?_ ?_ (L14.out.mod ?_) HSM.out rfl rfl
                · rw [hWF]
                  apply Blk.row
                  · repeat (first | with_reducible exact J14.out.bM | (with_reducible apply Blk.newAt; (simp; done)) | with_reducible apply Blk.alloc | with_reducible apply Blk.drew | with_reducible apply Blk.drewN | with_reducible apply Blk.set | (with_reducible apply Blk.other; · first | (simp; done) | (simp; omega) | omega) | (with_reducible apply Blk.putObj; · first | (simp; done) | (simp; omega) | omega))
                  · rfl
                · rw [hWF]
                  apply Blk.row
                  · repeat (first | with_reducible exact J14.out.bE | (with_reducible apply Blk.newAt; (simp; done)) | with_reducible apply Blk.alloc | with_reducible apply Blk.drew | with_reducible apply Blk.drewN | with_reducible apply Blk.set | (with_reducible apply Blk.other; · first | (simp; done) | (simp; omega) | omega) | (with_reducible apply Blk.putObj; · first | (simp; done) | (simp; omega) | omega))
                  · rfl
                · have q := J14.out.new
                  rw [hWF]
                  repeat (first | with_reducible exact q | with_reducible refine Mod.alloc ?_ _ | with_reducible refine Mod.drew ?_ | with_reducible refine Mod.drewN ?_ _ | (with_reducible refine Mod.set ?_ _ _ (by first | exact .inl rfl | (right; omega) | (right; simp; done) | (right; simp; omega) | (left; omega) | (left; simp; done) | (left; simp; omega))) | (with_reducible refine Mod.putObj ?_ _ _ (by first | exact .inl rfl | (right; omega) | (right; simp; done) | (right; simp; omega) | (left; omega) | (left; simp; done) | (left; simp; omega))))
                · rw [hWF]
                  repeat (first | with_reducible exact Mod.refl _ W14 | with_reducible refine Mod.alloc ?_ _ | with_reducible refine Mod.drew ?_ | with_reducible refine Mod.drewN ?_ _ | (with_reducible refine Mod.set ?_ _ _ (by first | exact .inl rfl | (right; omega) | (right; simp; done) | (right; simp; omega) | (left; omega) | (left; simp; done) | (left; simp; omega))) | (with_reducible refine Mod.putObj ?_ _ _ (by first | exact .inl rfl | (right; omega) | (right; simp; done) | (right; simp; omega) | (left; omega) | (left; simp; done) | (left; simp; omega))))
              by_cases hb0 : b.on.length = 0
              · have HON := hid (HJN.out (.inr (List.eq_nil_of_length_eq_zero hb0)))
                have hi0 : (0 : Int) < (a.on.length : Int) := by omega
                have hi1 : ¬ (0 : Int) < (b.on.length : Int) := by omega
                clear ha0 hb0
                go_upto_region 19 with fail
                clear xa xb hi0 hi1
                rw [← HON.out] at L14
                have o0 := J14.out.bO.cellv 0 rfl; have o1 := J14.out.bO.cellv 1 rfl; have o2 := J14.out.bO.cellv 2 rfl; have o3 := J14.out.bO.cellv 3 rfl; have o4 := J14.out.bO.cellv 4 rfl; have o5 := J14.out.bO.cellv 5 rfl; have o6 := J14.out.bO.cellv 6 rfl
                have m0 := J14.out.bM.cellv 0 rfl; have m1 := J14.out.bM.cellv 1 rfl; have m2 := J14.out.bM.cellv 2 rfl; have m3 := J14.out.bM.cellv 3 rfl; have m4 := J14.out.bM.cellv 4 rfl; have m5 := J14.out.bM.cellv 5 rfl; have m6 := J14.out.bM.cellv 6 rfl
                have ml := J14.out.bM.lt; have mf := J14.out.bM.frz
                obtain ⟨e1, e2, e3⟩ := J14.out.bE.one
                have hCC := J14.out.hC
                go_wp2
                refine name_worldA (p := fun W => Leaves _ _ _ _ _ _ W) (fun WF hWF => ?_)
                refine join_end (D := C + 2) HX.out ?_ ?_ ?_ (L14.out.mod ?_) HSM.out rfl rfl
                · rw [hWF]
                  apply Blk.row
                  · repeat (first | with_reducible exact J14.out.bM | (with_reducible apply Blk.newAt; (simp; done)) | with_reducible apply Blk.alloc | with_reducible apply Blk.drew | with_reducible apply Blk.drewN | with_reducible apply Blk.set | (with_reducible apply Blk.other; · first | (simp; done) | (simp; omega) | omega) | (with_reducible apply Blk.putObj; · first | (simp; done) | (simp; omega) | omega))
                  · rfl
                · rw [hWF]
                  apply Blk.row
                  · repeat (first | with_reducible exact J14.out.bE | (with_reducible apply Blk.newAt; (simp; done)) | with_reducible apply Blk.alloc | with_reducible apply Blk.drew | with_reducible apply Blk.drewN | with_reducible apply Blk.set | (with_reducible apply Blk.other; · first | (simp; done) | (simp; omega) | omega) | (with_reducible apply Blk.putObj; · first | (simp; done) | (simp; omega) | omega))
                  · rfl
                · have q := J14.out.new
                  rw [hWF]
                  repeat (first | with_reducible exact q | with_reducible refine Mod.alloc ?_ _ | with_reducible refine Mod.drew ?_ | with_reducible refine Mod.drewN ?_ _ | (with_reducible refine Mod.set ?_ _ _ (by first | exact .inl rfl | (right; omega) | (right; simp; done) | (right; simp; omega) | (left; omega) | (left; simp; done) | (left; simp; omega))) | (with_reducible refine Mod.putObj ?_ _ _ (by first | exact .inl rfl | (right; omega) | (right; simp; done) | (right; simp; omega) | (left; omega) | (left; simp; done) | (left; simp; omega))))
                · rw [hWF]
                  repeat (first | with_reducible exact Mod.refl _ W14 | with_reducible refine Mod.alloc ?_ _ | with_reducible refine Mod.drew ?_ | with_reducible refine Mod.drewN ?_ _ | (with_reducible refine Mod.set ?_ _ _ (by first | exact .inl rfl | (right; omega) | (right; simp; done) | (right; simp; omega) | (left; omega) | (left; simp; done) | (left; simp; omega))) | (with_reducible refine Mod.putObj ?_ _ _ (by first | exact .inl rfl | (right; omega) | (right; simp; done) | (right; simp; omega) | (left; omega) | (left; simp; done) | (left; simp; omega))))
              have HON := hid (HJY.out (fun q => q.elim (fun e => ha0 (by rw [e]; rfl)) (fun e => hb0 (by rw [e]; rfl))))
              have hi0 : (0 : Int) < (a.on.length : Int) := by omega
              have hi1 : (0 : Int) < (b.on.length : Int) := by omega
              clear ha0 hb0
              go_wp2_with fail
              refine (HFA.out _ J14.out.new).mono ?_
              rintro e w15 ⟨rfl, n15⟩
              simp only [frE]
              have J15 := hid (J14.out.next n15); have L15 := hid (L14.out.next n15)
              have xb : w15.cell? ⟨w.heap.size + 1, 6, none⟩ = some (.slice ob b.on.length od) := J15.out.bB.cellv 6 rfl
              clear n15 xa hi0 hi1
              go_wp2_with fail
              refine (HFB.out _ J15.out.new).mono ?_
              rintro e w16 ⟨rfl, n16⟩
              simp only [frE]
              have J16 := hid (J15.out.next n16); have L16 := hid (L15.out.next n16)
              clear n16 xb
              go_wp2_with fail
              refine (HOR.out _).mono ?_
              rintro e w17 ⟨rfl, n17⟩
              have J17 := hid (J16.out.next n17); have L17 := hid (L16.out.next n17)
              clear n17
              go_wp2_with fail
              refine (HRU.out _).mono ?_
              rintro e w18 ⟨v, rfl, ho, n18⟩
              have hD18 : C + 2 ≤ w17.heap.size := by have := J17.out.bO.lt; omega
              have J18 := hid (J17.out.next n18)
              have L18 := hid (show JL w18 (C + 2) _ _ _ _ _ _ _ J.on from ⟨(L17.out.next n18).t, (L17.out.next n18).p, (L17.out.next n18).s, by rw [HON.out]; exact ho.base hD18⟩)
              obtain ⟨ya, yc, rfl, -⟩ := OwnR.at2 ho
              clear n18 ho hD18
              have ol := J18.out.bO.lt; have of := J18.out.bO.frz 6; have o6 := J18.out.bO.cellv 6 rfl
              go_upto_region 19 with fail
              refine name_worldA (p := fun W => Code.wp _ _ _ _ W) (fun W19 hWB => ?_)
              have J19 := hid (show JS w W19 a b _ _ C (C + 1) true _ by rw [hWB]; exact J18.out.set 6 _)
              have L19 := hid (show JL W19 (C + 2) _ _ _ _ _ _ _ _ by rw [hWB]; exact L18.out.mod (setMod (by omega)))
              clear hWB ol of o6 J18 L18
              have o0 := J19.out.bO.cellv 0 rfl; have o1 := J19.out.bO.cellv 1 rfl; have o2 := J19.out.bO.cellv 2 rfl; have o3 := J19.out.bO.cellv 3 rfl; have o4 := J19.out.bO.cellv 4 rfl; have o5 := J19.out.bO.cellv 5 rfl; have o6 := J19.out.bO.cellv 6 rfl
              have m0 := J19.out.bM.cellv 0 rfl; have m1 := J19.out.bM.cellv 1 rfl; have m2 := J19.out.bM.cellv 2 rfl; have m3 := J19.out.bM.cellv 3 rfl; have m4 := J19.out.bM.cellv 4 rfl; have m5 := J19.out.bM.cellv 5 rfl; have m6 := J19.out.bM.cellv 6 rfl
              have ml := J19.out.bM.lt; have mf := J19.out.bM.frz
              obtain ⟨e1, e2, e3⟩ := J19.out.bE.one
              have hCC := J19.out.hC
              go_wp2
              refine name_worldA (p := fun W => Leaves _ _ _ _ _ _ W) (fun WF hWF => ?_)
              refine join_end (D := C + 2) HX.out ?_ ?_ ?_ (L19.out.mod ?_) HSM.out rfl rfl
              · rw [hWF]
                apply Blk.row
                · repeat (first | with_reducible exact J19.out.bM | (with_reducible apply Blk.newAt; (simp; done)) | with_reducible apply Blk.alloc | with_reducible apply Blk.drew | with_reducible apply Blk.drewN | with_reducible apply Blk.set | (with_reducible apply Blk.other; · first | (simp; done) | (simp; omega) | omega) | (with_reducible apply Blk.putObj; · first | (simp; done) | (simp; omega) | omega))
                · rfl
              · rw [hWF]
                apply Blk.row
                · repeat (first | with_reducible exact J19.out.bE | (with_reducible apply Blk.newAt; (simp; done)) | with_reducible apply Blk.alloc | with_reducible apply Blk.drew | with_reducible apply Blk.drewN | with_reducible apply Blk.set | (with_reducible apply Blk.other; · first | (simp; done) | (simp; omega) | omega) | (with_reducible apply Blk.putObj; · first | (simp; done) | (simp; omega) | omega))
                · rfl
              · have q := J19.out.new
                rw [hWF]
                repeat (first | with_reducible exact q | with_reducible refine Mod.alloc ?_ _ | with_reducible refine Mod.drew ?_ | with_reducible refine Mod.drewN ?_ _ | (with_reducible refine Mod.set ?_ _ _ (by first | exact .inl rfl | (right; omega) | (right; simp; done) | (right; simp; omega) | (left; omega) | (left; simp; done) | (left; simp; omega))) | (with_reducible refine Mod.putObj ?_ _ _ (by first | exact .inl rfl | (right; omega) | (right; simp; done) | (right; simp; omega) | (left; omega) | (left; simp; done) | (left; simp; omega))))
              · rw [hWF]
                repeat (first | with_reducible exact Mod.refl _ W19 | with_reducible refine Mod.alloc ?_ _ | with_reducible refine Mod.drew ?_ | with_reducible refine Mod.drewN ?_ _ | (with_reducible refine Mod.set ?_ _ _ (by first | exact .inl rfl | (right; omega) | (right; simp; done) | (right; simp; omega) | (left; omega) | (left; simp; done) | (left; simp; omega))) | (with_reducible refine Mod.putObj ?_ _ _ (by first | exact .inl rfl | (right; omega) | (right; simp; done) | (right; simp; omega) | (left; omega) | (left; simp; done) | (left; simp; omega))))
            · obtain ⟨x1, x2, x3, -⟩ := strN hn
              have HNE := hid (show a.name = J.name by rw [HNM.out, if_neg hn])
              clear hn
              go_upto_region 11 with fail
              refine name_worldA (p := fun W => Code.wp _ _ _ _ W) (fun W9 hW9 => ?_)
              have J9 := hid (show JS w W9 a b ⟨ta, tc, pa, pc, sa, sc, oa, oc⟩ ⟨tb, td, pb, pd, sb, sd, ob, od⟩ C (C + 1) true #[.string J.old, .string J.new, .string J.name, .slice none 0 0, .slice none 0 0, .slice none 0 0, .slice none 0 0] by rw [hW9, ← HNE.out]; exact (J8.out.set 2 _).row rfl)
              clear hW9 x1 x2 x3 a2 b2 ol of o2 hCC hne hne'
              have L9 := hid (JL.zero W9 (C + 2))
              have xa3 : W9.cell? ⟨w.heap.size, 3, none⟩ = some (.slice ta a.tr.length tc) := J9.out.bA.cellv 3 rfl
              have xb3 : W9.cell? ⟨w.heap.size + 1, 3, none⟩ = some (.slice tb b.tr.length td) := J9.out.bB.cellv 3 rfl
              by_cases hl : J.tr.length ≤ 10
              rotate_left
              · have HX := hid (show X = .error 4 by rw [HXG.out, if_pos (.inl (by omega))])
                go_wp2_with fail
                refine (HO3.out _ J9.out.new).mono ?_
                rintro e w10 ⟨hq10, n10⟩
                rcases hq10 with ⟨q, -⟩ | ⟨-, rfl⟩
                · exact absurd q hl
                have J10 := hid (J9.out.next n10)
                clear n10
                go_wp2
                exact join_caught HX.out J10.out.bM J10.out.bE J10.out.new rfl rfl
              have HLE3 := hid hl
              clear hl
              go_wp2_with fail
              refine (HO3.out _ J9.out.new).mono ?_
              rintro e w10 ⟨hq10, n10⟩
              rcases hq10 with ⟨-, v, rfl, ho⟩ | ⟨q, -⟩
              rotate_left
              · exact absurd HLE3.out (by omega)
              have J10 := hid (J9.out.next n10)
              have hD10 : C + 2 ≤ W9.heap.size := by have := J9.out.bO.lt; omega
              have L10 := hid (show JL w10 (C + 2) _ _ _ _ _ _ _ _ from ⟨ho.base hD10, (L9.out.next n10).p, (L9.out.next n10).s, (L9.out.next n10).o⟩)
              obtain ⟨ua, uc, rfl, -⟩ := OwnS.at4 ho
              clear n10 ho xa3 xb3 hD10
              have ol := J10.out.bO.lt; have of := J10.out.bO.frz 3; have o3 := J10.out.bO.cellv 3 rfl
              go_upto_region 12 with fail
              refine name_worldA (p := fun W => Code.wp _ _ _ _ W) (fun W12 hWB => ?_)
              have J12 := hid (show JS w W12 a b _ _ C (C + 1) true _ by rw [hWB]; exact J10.out.set 3 _)
              have L12 := hid (show JL W12 (C + 2) _ _ _ _ _ _ _ _ by rw [hWB]; exact L10.out.mod (setMod (by omega)))
              clear hWB ol of o3 J10 L10
              have xa5 : W12.cell? ⟨w.heap.size, 5, none⟩ = some (.slice sa a.ws.length sc) := J12.out.bA.cellv 5 rfl
              have xb5 : W12.cell? ⟨w.heap.size + 1, 5, none⟩ = some (.slice sb b.ws.length sd) := J12.out.bB.cellv 5 rfl
              by_cases hl : J.ws.length ≤ 10
              rotate_left
              · have HX := hid (show X = .error 4 by rw [HXG.out, if_pos (.inr (.inl (by omega)))])
                go_wp2_with fail
                refine (HO5.out _ J12.out.new).mono ?_
                rintro e w10 ⟨hq10, n10⟩
                rcases hq10 with ⟨q, -⟩ | ⟨-, rfl⟩
                · exact absurd q hl
                have J10 := hid (J12.out.next n10)
                clear n10
                go_wp2
                exact join_caught HX.out J10.out.bM J10.out.bE J10.out.new rfl rfl
              have HLE5 := hid hl
              clear hl
              go_wp2_with fail
              refine (HO5.out _ J12.out.new).mono ?_
              rintro e w10 ⟨hq10, n10⟩
              rcases hq10 with ⟨-, v, rfl, ho⟩ | ⟨q, -⟩
              rotate_left
              · exact absurd HLE5.out (by omega)
              have J10 := hid (J12.out.next n10)
              have hD10 : C + 2 ≤ W12.heap.size := by have := J12.out.bO.lt; omega
              have L10 := hid (show JL w10 (C + 2) _ _ _ _ _ _ _ _ from ⟨(L12.out.next n10).t, (L12.out.next n10).p, ho.base hD10, (L12.out.next n10).o⟩)
              obtain ⟨va, vc, rfl, -⟩ := OwnS.at4 ho
              clear n10 ho xa5 xb5 hD10
              have ol := J10.out.bO.lt; have of := J10.out.bO.frz 5; have o5 := J10.out.bO.cellv 5 rfl
              go_upto_region 13 with fail
              refine name_worldA (p := fun W => Code.wp _ _ _ _ W) (fun W13 hWB => ?_)
              have J13 := hid (show JS w W13 a b _ _ C (C + 1) true _ by rw [hWB]; exact J10.out.set 5 _)
              have L13 := hid (show JL W13 (C + 2) _ _ _ _ _ _ _ _ by rw [hWB]; exact L10.out.mod (setMod (by omega)))
              clear hWB ol of o5 J10 L10
              have xa4 : W13.cell? ⟨w.heap.size, 4, none⟩ = some (.slice pa a.pe.length pc) := J13.out.bA.cellv 4 rfl
              have xb4 : W13.cell? ⟨w.heap.size + 1, 4, none⟩ = some (.slice pb b.pe.length pd) := J13.out.bB.cellv 4 rfl
              by_cases hl : J.pe.length ≤ 20
              rotate_left
              · have HX := hid (show X = .error 4 by rw [HXG.out, if_pos (.inr (.inr (by omega)))])
                go_wp2_with fail
                refine (HO4.out _ J13.out.new).mono ?_
                rintro e w10 ⟨hq10, n10⟩
                rcases hq10 with ⟨q, -⟩ | ⟨-, rfl⟩
                · exact absurd q hl
                have J10 := hid (J13.out.next n10)
                clear n10
                go_wp2
                exact join_caught HX.out J10.out.bM J10.out.bE J10.out.new rfl rfl
              have HLE4 := hid hl
              clear hl
              go_wp2_with fail
              refine (HO4.out _ J13.out.new).mono ?_
              rintro e w10 ⟨hq10, n10⟩
              rcases hq10 with ⟨-, v, rfl, ho⟩ | ⟨q, -⟩
              rotate_left
              · exact absurd HLE4.out (by omega)
              have J10 := hid (J13.out.next n10)
              have hD10 : C + 2 ≤ W13.heap.size := by have := J13.out.bO.lt; omega
              have L10 := hid (show JL w10 (C + 2) _ _ _ _ _ _ _ _ from ⟨(L13.out.next n10).t, ho.base hD10, (L13.out.next n10).s, (L13.out.next n10).o⟩)
              obtain ⟨wa, wc, rfl, -⟩ := OwnA.at4 ho HSM.out
              clear n10 ho xa4 xb4 hD10
              have ol := J10.out.bO.lt; have of := J10.out.bO.frz 4; have o4 := J10.out.bO.cellv 4 rfl
              go_upto_region 14 with fail
              refine name_worldA (p := fun W => Code.wp _ _ _ _ W) (fun W14 hWB => ?_)
              have J14 := hid (show JS w W14 a b _ _ C (C + 1) true _ by rw [hWB]; exact J10.out.set 4 _)
              have L14 := hid (show JL W14 (C + 2) _ _ _ _ _ _ _ _ by rw [hWB]; exact L10.out.mod (setMod (by omega)))
              clear hWB ol of o4 J10 L10
              have HX := hid (show X = .ok J by rw [HXG.out, if_neg (by have := HLE3.out; have := HLE4.out; have := HLE5.out; omega)])
              have xa : W14.cell? ⟨w.heap.size, 6, none⟩ = some (.slice oa a.on.length oc) := J14.out.bA.cellv 6 rfl
              have xb : W14.cell? ⟨w.heap.size + 1, 6, none⟩ = some (.slice ob b.on.length od) := J14.out.bB.cellv 6 rfl
              by_cases ha0 : a.on.length = 0
              · have HON := hid (HJN.out (.inl (List.eq_nil_of_length_eq_zero ha0)))
                have hi0 : ¬ (0 : Int) < (a.on.length : Int) := by omega
                clear ha0
                go_upto_region 19 with fail
                clear xa xb hi0
                rw [← HON.out] at L14
                have o0 := J14.out.bO.cellv 0 rfl; have o1 := J14.out.bO.cellv 1 rfl; have o2 := J14.out.bO.cellv 2 rfl; have o3 := J14.out.bO.cellv 3 rfl; have o4 := J14.out.bO.cellv 4 rfl; have o5 := J14.out.bO.cellv 5 rfl; have o6 := J14.out.bO.cellv 6 rfl
                have m0 := J14.out.bM.cellv 0 rfl; have m1 := J14.out.bM.cellv 1 rfl; have m2 := J14.out.bM.cellv 2 rfl; have m3 := J14.out.bM.cellv 3 rfl; have m4 := J14.out.bM.cellv 4 rfl; have m5 := J14.out.bM.cellv 5 rfl; have m6 := J14.out.bM.cellv 6 rfl
                have ml := J14.out.bM.lt; have mf := J14.out.bM.frz
                obtain ⟨e1, e2, e3⟩ := J14.out.bE.one
                have hCC := J14.out.hC
                go_wp2
                refine name_worldA (p := fun W => Leaves _ _ _ _ _ _ W) (fun WF hWF => ?_)
                refine join_end (D := C + 2) HX.out ?_ ?_ ?_ (L14.out.mod ?_) HSM.out rfl rfl
                · rw [hWF]
                  apply Blk.row
                  · repeat (first | with_reducible exact J14.out.bM | (with_reducible apply Blk.newAt; (simp; done)) | with_reducible apply Blk.alloc | with_reducible apply Blk.drew | with_reducible apply Blk.drewN | with_reducible apply Blk.set | (with_reducible apply Blk.other; · first | (simp; done) | (simp; omega) | omega) | (with_reducible apply Blk.putObj; · first | (simp; done) | (simp; omega) | omega))
                  · rfl
                · rw [hWF]
                  apply Blk.row
                  · repeat (first | with_reducible exact J14.out.bE | (with_reducible apply Blk.newAt; (simp; done)) | with_reducible apply Blk.alloc | with_reducible apply Blk.drew | with_reducible apply Blk.drewN | with_reducible apply Blk.set | (with_reducible apply Blk.other; · first | (simp; done) | (simp; omega) | omega) | (with_reducible apply Blk.putObj; · first | (simp; done) | (simp; omega) | omega))
                  · rfl
                · have q := J14.out.new
                  rw [hWF]
                  repeat (first | with_reducible exact q | with_reducible refine Mod.alloc ?_ _ | with_reducible refine Mod.drew ?_ | with_reducible refine Mod.drewN ?_ _ | (with_reducible refine Mod.set ?_ _ _ (by first | exact .inl rfl | (right; omega) | (right; simp; done) | (right; simp; omega) | (left; omega) | (left; simp; done) | (left; simp; omega))) | (with_reducible refine Mod.putObj ?_ _ _ (by first | exact .inl rfl | (right; omega) | (right; simp; done) | (right; simp; omega) | (left; omega) | (left; simp; done) | (left; simp; omega))))
                · rw [hWF]
                  repeat (first | with_reducible exact Mod.refl _ W14 | with_reducible refine Mod.alloc ?_ _ | with_reducible refine Mod.drew ?_ | with_reducible refine Mod.drewN ?_ _ | (with_reducible refine Mod.set ?_ _ _ (by first | exact .inl rfl | (right; omega) | (right; simp; done) | (right; simp; omega) | (left; omega) | (left; simp; done) | (left; simp; omega))) | (with_reducible refine Mod.putObj ?_ _ _ (by first | exact .inl rfl | (right; omega) | (right; simp; done) | (right; simp; omega) | (left; omega) | (left; simp; done) | (left; simp; omega))))
              by_cases hb0 : b.on.length = 0
              · have HON := hid (HJN.out (.inr (List.eq_nil_of_length_eq_zero hb0)))
                have hi0 : (0 : Int) < (a.on.length : Int) := by omega
                have hi1 : ¬ (0 : Int) < (b.on.length : Int) := by omega
                clear ha0 hb0
                go_upto_region 19 with fail
                clear xa xb hi0 hi1
                rw [← HON.out] at L14
                have o0 := J14.out.bO.cellv 0 rfl; have o1 := J14.out.bO.cellv 1 rfl; have o2 := J14.out.bO.cellv 2 rfl; have o3 := J14.out.bO.cellv 3 rfl; have o4 := J14.out.bO.cellv 4 rfl; have o5 := J14.out.bO.cellv 5 rfl; have o6 := J14.out.bO.cellv 6 rfl
                have m0 := J14.out.bM.cellv 0 rfl; have m1 := J14.out.bM.cellv 1 rfl; have m2 := J14.out.bM.cellv 2 rfl; have m3 := J14.out.bM.cellv 3 rfl; have m4 := J14.out.bM.cellv 4 rfl; have m5 := J14.out.bM.cellv 5 rfl; have m6 := J14.out.bM.cellv 6 rfl
                have ml := J14.out.bM.lt; have mf := J14.out.bM.frz
                obtain ⟨e1, e2, e3⟩ := J14.out.bE.one
                have hCC := J14.out.hC
                go_wp2
                refine name_worldA (p := fun W => Leaves _ _ _ _ _ _ W) (fun WF hWF => ?_)
                refine join_end (D := C + 2) HX.out ?_ ?_ ?_ (L14.out.mod ?_) HSM.out rfl rfl
                · rw [hWF]
                  apply Blk.row
                  · repeat (first | with_reducible exact J14.out.bM | (with_reducible apply Blk.newAt; (simp; done)) | with_reducible apply Blk.alloc | with_reducible apply Blk.drew | with_reducible apply Blk.drewN | with_reducible apply Blk.set | (with_reducible apply Blk.other; · first | (simp; done) | (simp; omega) | omega) | (with_reducible apply Blk.putObj; · first | (simp; done) | (simp; omega) | omega))
                  · rfl
                · rw [hWF]
                  apply Blk.row
                  · repeat (first | with_reducible exact J14.out.bE | (with_reducible apply Blk.newAt; (simp; done)) | with_reducible apply Blk.alloc | with_reducible apply Blk.drew | with_reducible apply Blk.drewN | with_reducible apply Blk.set | (with_reducible apply Blk.other; · first | (simp; done) | (simp; omega) | omega) | (with_reducible apply Blk.putObj; · first | (simp; done) | (simp; omega) | omega))
                  · rfl
                · have q := J14.out.new
                  rw [hWF]
                  repeat (first | with_reducible exact q | with_reducible refine Mod.alloc ?_ _ | with_reducible refine Mod.drew ?_ | with_reducible refine Mod.drewN ?_ _ | (with_reducible refine Mod.set ?_ _ _ (by first | exact .inl rfl | (right; omega) | (right; simp; done) | (right; simp; omega) | (left; omega) | (left; simp; done) | (left; simp; omega))) | (with_reducible refine Mod.putObj ?_ _ _ (by first | exact .inl rfl | (right; omega) | (right; simp; done) | (right; simp; omega) | (left; omega) | (left; simp; done) | (left; simp; omega))))
                · rw [hWF]
                  repeat (first | with_reducible exact Mod.refl _ W14 | with_reducible refine Mod.alloc ?_ _ | with_reducible refine Mod.drew ?_ | with_reducible refine Mod.drewN ?_ _ | (with_reducible refine Mod.set ?_ _ _ (by first | exact .inl rfl | (right; omega) | (right; simp; done) | (right; simp; omega) | (left; omega) | (left; simp; done) | (left; simp; omega))) | (with_reducible refine Mod.putObj ?_ _ _ (by first | exact .inl rfl | (right; omega) | (right; simp; done) | (right; simp; omega) | (left; omega) | (left; simp; done) | (left; simp; omega))))
              have HON := hid (HJY.out (fun q => q.elim (fun e => ha0 (by rw [e]; rfl)) (fun e => hb0 (by rw [e]; rfl))))
              have hi0 : (0 : Int) < (a.on.length : Int) := by omega
              have hi1 : (0 : Int) < (b.on.length : Int) := by omega
              clear ha0 hb0
              go_wp2_with fail
              refine (HFA.out _ J14.out.new).mono ?_
              rintro e w15 ⟨rfl, n15⟩
              simp only [frE]
              have J15 := hid (J14.out.next n15); have L15 := hid (L14.out.next n15)
              have xb : w15.cell? ⟨w.heap.size + 1, 6, none⟩ = some (.slice ob b.on.length od) := J15.out.bB.cellv 6 rfl
              clear n15 xa hi0 hi1
              go_wp2_with fail
              refine (HFB.out _ J15.out.new).mono ?_
              rintro e w16 ⟨rfl, n16⟩
              simp only [frE]
              have J16 := hid (J15.out.next n16); have L16 := hid (L15.out.next n16)
              clear n16 xb
              go_wp2_with fail
              refine (HOR.out _).mono ?_
              rintro e w17 ⟨rfl, n17⟩
              have J17 := hid (J16.out.next n17); have L17 := hid (L16.out.next n17)
              clear n17
              go_wp2_with fail
              refine (HRU.out _).mono ?_
              rintro e w18 ⟨v, rfl, ho, n18⟩
              have hD18 : C + 2 ≤ w17.heap.size := by have := J17.out.bO.lt; omega
              have J18 := hid (J17.out.next n18)
              have L18 := hid (show JL w18 (C + 2) _ _ _ _ _ _ _ J.on from ⟨(L17.out.next n18).t, (L17.out.next n18).p, (L17.out.next n18).s, by rw [HON.out]; exact ho.base hD18⟩)
              obtain ⟨ya, yc, rfl, -⟩ := OwnR.at2 ho
              clear n18 ho hD18
              have ol := J18.out.bO.lt; have of := J18.out.bO.frz 6; have o6 := J18.out.bO.cellv 6 rfl
              go_upto_region 19 with fail
              refine name_worldA (p := fun W => Code.wp _ _ _ _ W) (fun W19 hWB => ?_)
              have J19 := hid (show JS w W19 a b _ _ C (C + 1) true _ by rw [hWB]; exact J18.out.set 6 _)
              have L19 := hid (show JL W19 (C + 2) _ _ _ _ _ _ _ _ by rw [hWB]; exact L18.out.mod (setMod (by omega)))
              clear hWB ol of o6 J18 L18
              have o0 := J19.out.bO.cellv 0 rfl; have o1 := J19.out.bO.cellv 1 rfl; have o2 := J19.out.bO.cellv 2 rfl; have o3 := J19.out.bO.cellv 3 rfl; have o4 := J19.out.bO.cellv 4 rfl; have o5 := J19.out.bO.cellv 5 rfl; have o6 := J19.out.bO.cellv 6 rfl
              have m0 := J19.out.bM.cellv 0 rfl; have m1 := J19.out.bM.cellv 1 rfl; have m2 := J19.out.bM.cellv 2 rfl; have m3 := J19.out.bM.cellv 3 rfl; have m4 := J19.out.bM.cellv 4 rfl; have m5 := J19.out.bM.cellv 5 rfl; have m6 := J19.out.bM.cellv 6 rfl
              have ml := J19.out.bM.lt; have mf := J19.out.bM.frz
              obtain ⟨e1, e2, e3⟩ := J19.out.bE.one
              have hCC := J19.out.hC
              go_wp2
              refine name_worldA (p := fun W => Leaves _ _ _ _ _ _ W) (fun WF hWF => ?_)
              refine join_end (D := C + 2) HX.out ?_ ?_ ?_ (L19.out.mod ?_) HSM.out rfl rfl
              · rw [hWF]
                apply Blk.row
                · repeat (first | with_reducible exact J19.out.bM | (with_reducible apply Blk.newAt; (simp; done)) | with_reducible apply Blk.alloc | with_reducible apply Blk.drew | with_reducible apply Blk.drewN | with_reducible apply Blk.set | (with_reducible apply Blk.other; · first | (simp; done) | (simp; omega) | omega) | (with_reducible apply Blk.putObj; · first | (simp; done) | (simp; omega) | omega))
                · rfl
              · rw [hWF]
                apply Blk.row
                · repeat (first | with_reducible exact J19.out.bE | (with_reducible apply Blk.newAt; (simp; done)) | with_reducible apply Blk.alloc | with_reducible apply Blk.drew | with_reducible apply Blk.drewN | with_reducible apply Blk.set | (with_reducible apply Blk.other; · first | (simp; done) | (simp; omega) | omega) | (with_reducible apply Blk.putObj; · first | (simp; done) | (simp; omega) | omega))
                · rfl
              · have q := J19.out.new
                rw [hWF]
                repeat (first | with_reducible exact q | with_reducible refine Mod.alloc ?_ _ | with_reducible refine Mod.drew ?_ | with_reducible refine Mod.drewN ?_ _ | (with_reducible refine Mod.set ?_ _ _ (by first | exact .inl rfl | (right; omega) | (right; simp; done) | (right; simp; omega) | (left; omega) | (left; simp; done) | (left; simp; omega))) | (with_reducible refine Mod.putObj ?_ _ _ (by first | exact .inl rfl | (right; omega) | (right; simp; done) | (right; simp; omega) | (left; omega) | (left; simp; done) | (left; simp; omega))))
              · rw [hWF]
                repeat (first | with_reducible exact Mod.refl _ W19 | with_reducible refine Mod.alloc ?_ _ | with_reducible refine Mod.drew ?_ | with_reducible refine Mod.drewN ?_ _ | (with_reducible refine Mod.set ?_ _ _ (by first | exact .inl rfl | (right; omega) | (right; simp; done) | (right; simp; omega) | (left; omega) | (left; simp; done) | (left; simp; omega))) | (with_reducible refine Mod.putObj ?_ _ _ (by first | exact .inl rfl | (right; omega) | (right; simp; done) | (right; simp; omega) | (left; omega) | (left; simp; done) | (left; simp; omega))))
end Go.Proofs.YtbgmkplpolgebaaGreatDoor
