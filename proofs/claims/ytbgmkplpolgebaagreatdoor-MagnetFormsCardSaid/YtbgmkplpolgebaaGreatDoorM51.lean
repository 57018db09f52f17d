/-
  Several texts in one, in their build order. The walk of the law MagnetForms. Condition: the magnets lie as told; the library's variables are as laid. The wrap of a row that lists variables: the contract is handed the reach and the world's shape. No condition. A struct by value, of any number of fields of one cell each, opened. Over any program. No condition. A magnet by value, opened: how its lists lie. Plain facts over the program. No condition.
-/
import Derived.Test.YtbgmkplpolgebaaGreatDoorM45
import Derived.Test.YtbgmkplpolgebaaGreatDoorM47
import Derived.Test.YtbgmkplpolgebaaGreatDoorM48
import Derived.Test.YtbgmkplpolgebaaGreatDoorM50
import Derived.Test.YtbgmkplpolgebaaGreatDoorRows
import Derived.SizedLaws
import Derived.Lay
import Derived.ProofKit
import Derived.OpenShut
import Derived.MakeChecks
import Derived.ChangeMaps5
import Derived.Lib.SmallJoins
import Derived.Deep.Slices
import Derived.Deep.Fields
import Derived.ChangeSame
import Derived.Test.YtbgmkplpolgebaaGreatDoorM37
import Derived.Test.YtbgmkplpolgebaaGreatDoorM14
import Derived.Deep.Strs
import Derived.Stop.LaidErr
import Derived.Shelf.Vars
import Derived.Stop.Joined
namespace Go.Proofs.YtbgmkplpolgebaaGreatDoor
set_option linter.unusedSimpArgs false
set_option linter.unusedVariables false
open Go.RowKit Go.Shelf

/-- The magnet that is read of a magnet's text. -/
def backM (m : MgV) : MgV := { m with named := decide (m.name.size ≠ 0), only := decide (m.on ≠ []) }
theorem same_back (m : MgV) : sameMg (backM m) m = true := by unfold sameMg backM; simp
set_option maxRecDepth 100000 in
set_option maxHeartbeats 16000000 in
theorem forms_any (m n : MgV) (p q : MgP) (w : World) (h : MagAt w m p) (k : MagAt w n q) (hv : VarP w) :
    Calls Tryz.prog 6 #[magVal m p, magVal n q] w fun e w' => e = .returned (.bool true) ∧ New w w' := by
  have HA := hid (fun W (n : New w W) => awake09_any W (varPM (hv.new n)))
  have HLM := hid (fun W (l : New w W) => light09_any m p W (h.new l))
  have HLN := hid (fun W (l : New w W) => light09_any n q W (k.new l))
  have HFM := hid (fun W (l : New w W) => mFormat_any m p W (h.new l) (hv.new l))
  have HFR := hid (fun W (l : New w W) => rFormat_any m p W (h.new l))
  have HVM := hid (fun W (l : New w W) => mValid_any m p W (h.new l))
  have HVR := hid (fun W (l : New w W) => rValid_any m p W (h.new l))
  have HSM := hid (fun W (l : New w W) => msame_any m n p q W (h.new l) (k.new l))
  have HSR := hid (fun W (l : New w W) => rsame_any m n p q W (h.new l) (k.new l))
  have HBK := hid (fun W P (l : New w W) (g : MagAt W (backM m) P) => rsame_any (backM m) m P p W g (h.new l))
  rw [same_back] at HBK
  have HOK := hid (fun (v : validMg m = true) => validMg_iff.1 v)
  have HPA : Hid (validMg m = true → ∀ W, New w W → Calls Tryz.prog 8 #[.string (mkB (magT m))] W fun e w' => magQ W.heap.size (.ok (backM m)) e w' ∧ New W w') := hid (fun v W l => by
    have ok := validMg_iff.1 v
    have hl := magT_len ok
    have := mParse_go (mkB (magT m)) W (by rw [mkB_sz]; omega) (hv.new l)
    rw [show (mkB (magT m)).data.toList = magT m from rfl, magP_txt ok] at this
    exact this)
  have HAT : Hid (validMg m = true → ∀ (W : World) (b : Nat) (v : Value), MagIs W b v (backM m) → ∃ P, v = magVal (backM m) P ∧ MagAt W (backM m) P) := hid (fun v W b u g => by
    obtain ⟨hok, -⟩ := magP_ok (magP_txt (validMg_iff.1 v))
    exact MagIs.at' g (fun s h => by have := (hok.tr s h).2; unfold maxLen; omega) (fun s h => by have := (hok.ws s h).2; unfold maxLen; omega) (fun x h => by
      have := (adrOk_iff.1 (hok.pe x h)).1
      unfold maxLen
      omega))
  have HFX := hid (show validMg m = true → fmtX m = mkB (magT m) from fun v => by unfold fmtX; rw [if_pos v])
  have HFE := hid (show fmtE m = if validMg m = true then 0 else 1 from rfl)
  obtain ⟨T, hT⟩ : ∃ T, T = fmtX m := ⟨_, rfl⟩
  obtain ⟨c, hc⟩ : ∃ c, c = fmtE m := ⟨_, rfl⟩
  obtain ⟨V, hV⟩ : ∃ V, V = validMg m := ⟨_, rfl⟩
  obtain ⟨Z, hZ⟩ : ∃ Z, Z = sameMg m n := ⟨_, rfl⟩
  rw [← hT, ← hc] at HFM HFR
  rw [← hV] at HVM HVR HPA HAT HFX HFE HOK
  rw [← hT] at HFX
  rw [← hc] at HFE
  rw [← hZ] at HSM HSR
  have hTT : (T.toList != T.toList) = false := (neS rfl).2
  have hcc : (c != c) = false := by rw [bne, beq_self_eq_true]; rfl
  have hVV : (V != V) = false := by cases V <;> rfl
  have hZZ : (Z != Z) = false := by cases Z <;> rfl
  obtain ⟨ta, tc, pa, pc, sa, sc, oa, oc⟩ := p
  obtain ⟨tb, td, pb, pd, sb, sd, ob, od⟩ := q
  simp only [magVal, magRow] at HLM HLN HFM HFR HVM HVR HSM HSR HBK HAT ⊢
  clear h k hv hT hc hV hZ
  go_enter Tryz.func6, Tryz.ntmps6
  go_wp2_with fail
  refine name_worldA (p := fun W => Calls _ _ _ W _) (fun W1 hW => ?_)
  have A1x : Blk W1 w.heap.size #[.string m.old, .string m.new, .string m.name, .slice ta m.tr.length tc, .slice pa m.pe.length pc, .slice sa m.ws.length sc, .slice oa m.on.length oc] 27 := by
    rw [hW]
    apply Blk.row
    · repeat (first | with_reducible exact hW | (with_reducible apply Blk.newAt; (simp; done)) | with_reducible apply Blk.alloc | with_reducible apply Blk.drew | with_reducible apply Blk.drewN | with_reducible apply Blk.set | (with_reducible apply Blk.other; · first | (simp; done) | (simp; omega) | omega) | (with_reducible apply Blk.putObj; · first | (simp; done) | (simp; omega) | omega))
    · rfl
  have B1x : Blk W1 (w.heap.size + 1) #[.string n.old, .string n.new, .string n.name, .slice tb n.tr.length td, .slice pb n.pe.length pd, .slice sb n.ws.length sd, .slice ob n.on.length od] 27 := by
    rw [hW]
    apply Blk.row
    · repeat (first | with_reducible exact hW | (with_reducible apply Blk.newAt; (simp; done)) | with_reducible apply Blk.alloc | with_reducible apply Blk.drew | with_reducible apply Blk.drewN | with_reducible apply Blk.set | (with_reducible apply Blk.other; · first | (simp; done) | (simp; omega) | omega) | (with_reducible apply Blk.putObj; · first | (simp; done) | (simp; omega) | omega))
    · rfl
  have N1x : New w W1 := by
    rw [hW]
    repeat (first | with_reducible exact Mod.refl _ w | with_reducible refine Mod.alloc ?_ _ | with_reducible refine Mod.drew ?_ | with_reducible refine Mod.drewN ?_ _ | (with_reducible refine Mod.set ?_ _ _ (by first | exact .inl rfl | (right; omega) | (right; simp; done) | (right; simp; omega) | (left; omega) | (left; simp; done) | (left; simp; omega))) | (with_reducible refine Mod.putObj ?_ _ _ (by first | exact .inl rfl | (right; omega) | (right; simp; done) | (right; simp; omega) | (left; omega) | (left; simp; done) | (left; simp; omega))))
  have A1 := hid A1x; have B1 := hid B1x; have N1 := hid N1x
  clear hW A1x B1x N1x
  refine (HLM.out _ N1.out).mono ?_
  rintro e w2 ⟨⟨b1, rfl⟩, n2⟩
  have A2 := hid (New.blk n2 A1.out); have B2 := hid (New.blk n2 B1.out); have N2 := hid (N1.out.trans n2)
  clear n2 A1 B1 N1
  cases b1 with
  | false =>
    go_wp2_with fail
    refine (HA.out _ N2.out).mono ?_
    rintro e w3 ⟨rfl, n3⟩
    have N3 := hid (N2.out.trans n3)
    clear n3
    go_wp2
    go_ret
    exact ⟨rfl, N3.out⟩
  | true =>
    have d0 := B2.out.cellv 0 rfl; have d1 := B2.out.cellv 1 rfl; have d2 := B2.out.cellv 2 rfl; have d3 := B2.out.cellv 3 rfl; have d4 := B2.out.cellv 4 rfl; have d5 := B2.out.cellv 5 rfl; have d6 := B2.out.cellv 6 rfl; have dl := B2.out.lt
    go_wp2_with fail
    refine (HLN.out _ N2.out).mono ?_
    rintro e w3 ⟨⟨b2, rfl⟩, n3⟩
    have A3 := hid (New.blk n3 A2.out); have B3 := hid (New.blk n3 B2.out); have N3 := hid (N2.out.trans n3)
    clear n3 A2 B2 N2
    clear d0 d1 d2 d3 d4 d5 d6 dl
    cases b2 with
    | false =>
      go_wp2_with fail
      refine (HA.out _ N3.out).mono ?_
      rintro e w4 ⟨rfl, n4⟩
      have N4 := hid (N3.out.trans n4)
      clear n4
      go_wp2
      go_ret
      exact ⟨rfl, N4.out⟩
    | true =>
      clear HLM HLN
      have c0 := A3.out.cellv 0 rfl; have c1 := A3.out.cellv 1 rfl; have c2 := A3.out.cellv 2 rfl; have c3 := A3.out.cellv 3 rfl; have c4 := A3.out.cellv 4 rfl; have c5 := A3.out.cellv 5 rfl; have c6 := A3.out.cellv 6 rfl; have cl := A3.out.lt
      go_wp2_with fail
      refine (HFM.out _ N3.out).mono ?_
      rintro e w4 ⟨rfl, n4⟩
      have A4 := hid (New.blk n4 A3.out); have B4 := hid (New.blk n4 B3.out); have N4 := hid (N3.out.trans n4)
      clear n4 A3 B3 N3
      clear c0 c1 c2 c3 c4 c5 c6 cl
      have c0 := A4.out.cellv 0 rfl; have c1 := A4.out.cellv 1 rfl; have c2 := A4.out.cellv 2 rfl; have c3 := A4.out.cellv 3 rfl; have c4 := A4.out.cellv 4 rfl; have c5 := A4.out.cellv 5 rfl; have c6 := A4.out.cellv 6 rfl; have cl := A4.out.lt
      go_wp2_with fail
      refine (HFR.out _ N4.out).mono ?_
      rintro e w5 ⟨rfl, n5⟩
      have A5 := hid (New.blk n5 A4.out); have B5 := hid (New.blk n5 B4.out); have N5 := hid (N4.out.trans n5)
      clear n5 A4 B4 N4 HFM HFR
      clear c0 c1 c2 c3 c4 c5 c6 cl
      go_wp2_with fail
      refine wp_region_held_drew (S := (fun w' => (w'.cell? ⟨w.heap.size, 0, none⟩ = some (.string m.old) ∧ w'.cell? ⟨w.heap.size, 1, none⟩ = some (.string m.new) ∧ w'.cell? ⟨w.heap.size, 2, none⟩ = some (.string m.name) ∧ w'.cell? ⟨w.heap.size, 3, none⟩ = some (.slice ta m.tr.length tc) ∧ w'.cell? ⟨w.heap.size, 4, none⟩ = some (.slice pa m.pe.length pc) ∧ w'.cell? ⟨w.heap.size, 5, none⟩ = some (.slice sa m.ws.length sc) ∧ w'.cell? ⟨w.heap.size, 6, none⟩ = some (.slice oa m.on.length oc) ∧ w.heap.size < w'.heap.size) ∧ (w'.cell? ⟨w.heap.size + 1, 0, none⟩ = some (.string n.old) ∧ w'.cell? ⟨w.heap.size + 1, 1, none⟩ = some (.string n.new) ∧ w'.cell? ⟨w.heap.size + 1, 2, none⟩ = some (.string n.name) ∧ w'.cell? ⟨w.heap.size + 1, 3, none⟩ = some (.slice tb n.tr.length td) ∧ w'.cell? ⟨w.heap.size + 1, 4, none⟩ = some (.slice pb n.pe.length pd) ∧ w'.cell? ⟨w.heap.size + 1, 5, none⟩ = some (.slice sb n.ws.length sd) ∧ w'.cell? ⟨w.heap.size + 1, 6, none⟩ = some (.slice ob n.on.length od) ∧ w.heap.size + 1 < w'.heap.size))) (by kernel_rfl) ⟨⟨A5.out.cellv 0 rfl, A5.out.cellv 1 rfl, A5.out.cellv 2 rfl, A5.out.cellv 3 rfl, A5.out.cellv 4 rfl, A5.out.cellv 5 rfl, A5.out.cellv 6 rfl, A5.out.lt⟩, ⟨B5.out.cellv 0 rfl, B5.out.cellv 1 rfl, B5.out.cellv 2 rfl, B5.out.cellv 3 rfl, B5.out.cellv 4 rfl, B5.out.cellv 5 rfl, B5.out.cellv 6 rfl, B5.out.lt⟩⟩ (fun hHeld => ?_)
      refine tk (v := ?_) 0 ?_ ?_
      rotate_left
      · intro w hSw
        (try dsimp only at hSw)
        first | (go_simp; done) | (go_simp; with_reducible rfl) | with_reducible rfl
      simp only [Act.put, List.setIfInBounds_toArray, List.set_cons_zero, List.set_cons_succ]
      refine tk (v := ?_) 1 ?_ ?_
      rotate_left
      · intro w hSw
        (try dsimp only at hSw)
        first | (go_simp; done) | (go_simp; with_reducible rfl) | with_reducible rfl
      simp only [Act.put, List.setIfInBounds_toArray, List.set_cons_zero, List.set_cons_succ]
      refine tk (v := ?_) 2 ?_ ?_
      rotate_left
      · intro w hSw
        (try dsimp only at hSw)
        first | (go_simp; done) | (go_simp; with_reducible rfl) | with_reducible rfl
      simp only [Act.put, List.setIfInBounds_toArray, List.set_cons_zero, List.set_cons_succ]
      refine tk (v := ?_) 3 ?_ ?_
      rotate_left
      · intro w hSw
        (try dsimp only at hSw)
        first | (go_simp; done) | (go_simp; with_reducible rfl) | with_reducible rfl
      simp only [Act.put, List.setIfInBounds_toArray, List.set_cons_zero, List.set_cons_succ]
      refine tk (v := ?_) 4 ?_ ?_
      rotate_left
      · intro w hSw
        (try dsimp only at hSw)
        first | (go_simp; done) | (go_simp; with_reducible rfl) | with_reducible rfl
      simp only [Act.put, List.setIfInBounds_toArray, List.set_cons_zero, List.set_cons_succ]
      refine tk (v := ?_) 5 ?_ ?_
      rotate_left
      · intro w hSw
        (try dsimp only at hSw)
        first | (go_simp; done) | (go_simp; with_reducible rfl) | with_reducible rfl
      simp only [Act.put, List.setIfInBounds_toArray, List.set_cons_zero, List.set_cons_succ]
      refine tk (v := ?_) 6 ?_ ?_
      rotate_left
      · intro w hSw
        (try dsimp only at hSw)
        first | (go_simp; done) | (go_simp; with_reducible rfl) | with_reducible rfl
      simp only [Act.put, List.setIfInBounds_toArray, List.set_cons_zero, List.set_cons_succ]
      refine tk (v := ?_) 7 ?_ ?_
      rotate_left
      · intro w hSw
        (try dsimp only at hSw)
        first | (go_simp; done) | (go_simp; with_reducible rfl) | with_reducible rfl
      simp only [Act.put, List.setIfInBounds_toArray, List.set_cons_zero, List.set_cons_succ]
      refine tk (v := ?_) 8 ?_ ?_
      rotate_left
      · intro w hSw
        (try dsimp only at hSw)
        first | (go_simp; done) | (go_simp; with_reducible rfl) | with_reducible rfl
      simp only [Act.put, List.setIfInBounds_toArray, List.set_cons_zero, List.set_cons_succ]
      refine tk (v := ?_) 9 ?_ ?_
      rotate_left
      · intro w hSw
        (try dsimp only at hSw)
        first | (go_simp; done) | (go_simp; with_reducible rfl) | with_reducible rfl
      simp only [Act.put, List.setIfInBounds_toArray, List.set_cons_zero, List.set_cons_succ]
      refine tk (v := ?_) 11 ?_ ?_
      rotate_left
      · intro w hSw
        (try dsimp only at hSw)
        first | (go_simp; done) | (go_simp; with_reducible rfl) | with_reducible rfl
      simp only [Act.put, List.setIfInBounds_toArray, List.set_cons_zero, List.set_cons_succ]
      refine wpAnyH_ready (rs := [10]) (by kernel_rfl) (by simp) ?_
      refine AllReadyH.cons rfl (fun K hK => ?_) AllReadyH.nil
      go_simp
      (go_at_call 11; refine (HVM.out _ N5.out.drew).mono ?_; rintro e w6 ⟨rfl, n6⟩; have P6 := hid ((Mod.refl (fun _ => False) w5).drew.trans n6); have A6 := hid (New.blk P6.out A5.out); have B6 := hid (New.blk P6.out B5.out); clear n6)
      try dsimp only
      refine hK.out _ _ ⟨⟨A6.out.cellv 0 rfl, A6.out.cellv 1 rfl, A6.out.cellv 2 rfl, A6.out.cellv 3 rfl, A6.out.cellv 4 rfl, A6.out.cellv 5 rfl, A6.out.cellv 6 rfl, A6.out.lt⟩, ⟨B6.out.cellv 0 rfl, B6.out.cellv 1 rfl, B6.out.cellv 2 rfl, B6.out.cellv 3 rfl, B6.out.cellv 4 rfl, B6.out.cellv 5 rfl, B6.out.cellv 6 rfl, B6.out.lt⟩⟩ (fun hHeld10 => ?_)
      clear hK K
      try simp only [Act.put, List.setIfInBounds_toArray, List.set_cons_zero, List.set_cons_succ]
      refine wpAnyH_ready (rs := [12]) (by kernel_rfl) (by simp) ?_
      refine AllReadyH.cons rfl (fun K hK => ?_) AllReadyH.nil
      go_simp
      (go_at_call 19; refine (HVR.out _ (N5.out.trans P6.out)).mono ?_; rintro e w7 ⟨rfl, n7⟩; have P7 := hid (P6.out.trans n7); have A7 := hid (New.blk n7 A6.out); have B7 := hid (New.blk n7 B6.out); clear n7)
      try dsimp only
      refine hK.out _ _ ⟨⟨A7.out.cellv 0 rfl, A7.out.cellv 1 rfl, A7.out.cellv 2 rfl, A7.out.cellv 3 rfl, A7.out.cellv 4 rfl, A7.out.cellv 5 rfl, A7.out.cellv 6 rfl, A7.out.lt⟩, ⟨B7.out.cellv 0 rfl, B7.out.cellv 1 rfl, B7.out.cellv 2 rfl, B7.out.cellv 3 rfl, B7.out.cellv 4 rfl, B7.out.cellv 5 rfl, B7.out.cellv 6 rfl, B7.out.lt⟩⟩ (fun hHeld12 => ?_)
      clear hK K
      try simp only [Act.put, List.setIfInBounds_toArray, List.set_cons_zero, List.set_cons_succ]
      refine tk (v := ?_) 13 ?_ ?_
      rotate_left
      · intro w hSw
        (try dsimp only at hSw)
        first | (go_simp; done) | (go_simp; with_reducible rfl) | with_reducible rfl
      simp only [Act.put, List.setIfInBounds_toArray, List.set_cons_zero, List.set_cons_succ]
      refine tk (v := ?_) 14 ?_ ?_
      rotate_left
      · intro w hSw
        (try dsimp only at hSw)
        first | (go_simp; done) | (go_simp; with_reducible rfl) | with_reducible rfl
      simp only [Act.put, List.setIfInBounds_toArray, List.set_cons_zero, List.set_cons_succ]
      refine tk (v := ?_) 15 ?_ ?_
      rotate_left
      · intro w hSw
        (try dsimp only at hSw)
        first | (go_simp; done) | (go_simp; with_reducible rfl) | with_reducible rfl
      simp only [Act.put, List.setIfInBounds_toArray, List.set_cons_zero, List.set_cons_succ]
      refine tk (v := ?_) 16 ?_ ?_
      rotate_left
      · intro w hSw
        (try dsimp only at hSw)
        first | (go_simp; done) | (go_simp; with_reducible rfl) | with_reducible rfl
      simp only [Act.put, List.setIfInBounds_toArray, List.set_cons_zero, List.set_cons_succ]
      refine tk (v := ?_) 17 ?_ ?_
      rotate_left
      · intro w hSw
        (try dsimp only at hSw)
        first | (go_simp; done) | (go_simp; with_reducible rfl) | with_reducible rfl
      simp only [Act.put, List.setIfInBounds_toArray, List.set_cons_zero, List.set_cons_succ]
      refine tk (v := ?_) 19 ?_ ?_
      rotate_left
      · intro w hSw
        (try dsimp only at hSw)
        first | (go_simp; done) | (go_simp; with_reducible rfl) | with_reducible rfl
      simp only [Act.put, List.setIfInBounds_toArray, List.set_cons_zero, List.set_cons_succ]
      refine tk (v := ?_) 20 ?_ ?_
      rotate_left
      · intro w hSw
        (try dsimp only at hSw)
        first | (go_simp; done) | (go_simp; with_reducible rfl) | with_reducible rfl
      simp only [Act.put, List.setIfInBounds_toArray, List.set_cons_zero, List.set_cons_succ]
      refine wpAnyH_ready (rs := [18]) (by kernel_rfl) (by simp) ?_
      refine AllReadyH.cons rfl (fun K hK => ?_) AllReadyH.nil
      go_simp
      (go_at_call 20; refine (HSM.out _ (N5.out.trans P7.out)).mono ?_; rintro e w8 ⟨rfl, n8⟩; have P8 := hid (P7.out.trans n8); have A8 := hid (New.blk n8 A7.out); have B8 := hid (New.blk n8 B7.out); clear n8)
      try dsimp only
      refine hK.out _ _ ⟨⟨A8.out.cellv 0 rfl, A8.out.cellv 1 rfl, A8.out.cellv 2 rfl, A8.out.cellv 3 rfl, A8.out.cellv 4 rfl, A8.out.cellv 5 rfl, A8.out.cellv 6 rfl, A8.out.lt⟩, ⟨B8.out.cellv 0 rfl, B8.out.cellv 1 rfl, B8.out.cellv 2 rfl, B8.out.cellv 3 rfl, B8.out.cellv 4 rfl, B8.out.cellv 5 rfl, B8.out.cellv 6 rfl, B8.out.lt⟩⟩ (fun hHeld18 => ?_)
      clear hK K
      try simp only [Act.put, List.setIfInBounds_toArray, List.set_cons_zero, List.set_cons_succ]
      refine wpAnyH_ready (rs := [21]) (by kernel_rfl) (by simp) ?_
      refine AllReadyH.cons rfl (fun K hK => ?_) AllReadyH.nil
      go_simp
      (go_at_call 10; refine (HSR.out _ (N5.out.trans P8.out)).mono ?_; rintro e w9 ⟨rfl, n9⟩; have P9 := hid (P8.out.trans n9); have A9 := hid (New.blk n9 A8.out); have B9 := hid (New.blk n9 B8.out); clear n9)
      try dsimp only
      refine hK.out _ _ ⟨⟨A9.out.cellv 0 rfl, A9.out.cellv 1 rfl, A9.out.cellv 2 rfl, A9.out.cellv 3 rfl, A9.out.cellv 4 rfl, A9.out.cellv 5 rfl, A9.out.cellv 6 rfl, A9.out.lt⟩, ⟨B9.out.cellv 0 rfl, B9.out.cellv 1 rfl, B9.out.cellv 2 rfl, B9.out.cellv 3 rfl, B9.out.cellv 4 rfl, B9.out.cellv 5 rfl, B9.out.cellv 6 rfl, B9.out.lt⟩⟩ (fun hHeld21 => ?_)
      clear hK K
      try simp only [Act.put, List.setIfInBounds_toArray, List.set_cons_zero, List.set_cons_succ]
      refine tk (v := ?_) 22 ?_ ?_
      rotate_left
      · intro w hSw
        (try dsimp only at hSw)
        first | (go_simp; done) | (go_simp; with_reducible rfl) | with_reducible rfl
      simp only [Act.put, List.setIfInBounds_toArray, List.set_cons_zero, List.set_cons_succ]
      refine tk (v := ?_) 23 ?_ ?_
      rotate_left
      · intro w hSw
        (try dsimp only at hSw)
        first | (go_simp; done) | (go_simp; with_reducible rfl) | with_reducible rfl
      simp only [Act.put, List.setIfInBounds_toArray, List.set_cons_zero, List.set_cons_succ]
      refine wpAnyH_done (by kernel_rfl) ?_ _
      have N9 := hid (N5.out.trans P9.out)
      clear A5 B5 A6 B6 A7 B7 A8 B8 P6 P7 P8 P9 hHeld hHeld10 hHeld12 hHeld18 hHeld21 HVM HVR HSM HSR N5
      cases V with
      | false =>
        have hc1 : c = 1 := by rw [HFE.out, if_neg (by decide)]
        subst hc1
        clear HPA HAT HFX HFE HOK HBK A9 B9
        go_wp2_with fail
        refine (HA.out _ N9.out).mono ?_
        rintro e w10 ⟨rfl, n10⟩
        have N10 := hid (N9.out.trans n10)
        clear n10
        go_wp2
        go_ret
        exact ⟨rfl, N10.out⟩
      | true =>
        have hc1 : c = 0 := by rw [HFE.out, if_pos rfl]
        have hT1 := HFX.out rfl
        subst hc1
        subst hT1
        have HPA' := hid (HPA.out rfl)
        have HAT' := hid (HAT.out rfl)
        clear HPA HAT HFX HFE HOK
        go_wp2_with fail
        refine (HPA'.out _ N9.out).mono ?_
        rintro e w10 ⟨hq, n10⟩
        obtain ⟨v, rfl, his⟩ := magQ_yes hq
        obtain ⟨⟨ua, uc, va, vc, xa, xc, ya, yc⟩, rfl, hat⟩ := HAT'.out _ _ _ his
        have A10 := hid (New.blk n10 A9.out); have N10 := hid (N9.out.trans n10); have M10 := hid hat
        clear hq n10 his hat A9 B9 N9 HPA' HAT'
        simp only [magVal, magRow]
        have c0 := A10.out.cellv 0 rfl; have c1 := A10.out.cellv 1 rfl; have c2 := A10.out.cellv 2 rfl; have c3 := A10.out.cellv 3 rfl; have c4 := A10.out.cellv 4 rfl; have c5 := A10.out.cellv 5 rfl; have c6 := A10.out.cellv 6 rfl; have cl := A10.out.lt
        go_wp2_with fail
        refine name_worldA (p := fun W => Calls _ _ _ W _) (fun W11 hW => ?_)
        have B1x : Blk W11 w10.heap.size #[.string (backM m).old, .string (backM m).new, .string (backM m).name, .slice ua (backM m).tr.length uc, .slice va (backM m).pe.length vc, .slice xa (backM m).ws.length xc, .slice ya (backM m).on.length yc] 27 := by
          rw [hW]
          apply Blk.row
          · repeat (first | with_reducible exact hW | (with_reducible apply Blk.newAt; (simp; done)) | with_reducible apply Blk.alloc | with_reducible apply Blk.drew | with_reducible apply Blk.drewN | with_reducible apply Blk.set | (with_reducible apply Blk.other; · first | (simp; done) | (simp; omega) | omega) | (with_reducible apply Blk.putObj; · first | (simp; done) | (simp; omega) | omega))
          · rfl
        have N1x : New w10 W11 := by
          rw [hW]
          repeat (first | with_reducible exact Mod.refl _ w10 | with_reducible refine Mod.alloc ?_ _ | with_reducible refine Mod.drew ?_ | with_reducible refine Mod.drewN ?_ _ | (with_reducible refine Mod.set ?_ _ _ (by first | exact .inl rfl | (right; omega) | (right; simp; done) | (right; simp; omega) | (left; omega) | (left; simp; done) | (left; simp; omega))) | (with_reducible refine Mod.putObj ?_ _ _ (by first | exact .inl rfl | (right; omega) | (right; simp; done) | (right; simp; omega) | (left; omega) | (left; simp; done) | (left; simp; omega))))
        have R11 := hid B1x; have L11 := hid N1x
        clear hW B1x N1x
        clear c0 c1 c2 c3 c4 c5 c6 cl
        refine (HBK.out _ ⟨ua, uc, va, vc, xa, xc, ya, yc⟩ (N10.out.trans L11.out) (M10.out.new L11.out)).mono ?_
        rintro e w12 ⟨rfl, n12⟩
        have N12 := hid ((N10.out.trans L11.out).trans n12)
        clear n12 A10 N10 M10 R11 L11 HBK
        go_wp2_with fail
        refine (HA.out _ N12.out).mono ?_
        rintro e w13 ⟨rfl, n13⟩
        have N13 := hid (N12.out.trans n13)
        clear n13
        go_wp2
        go_ret
        exact ⟨rfl, N13.out⟩
end Go.Proofs.YtbgmkplpolgebaaGreatDoor

namespace Go.Proofs.YtbgmkplpolgebaaGreatDoor
set_option linter.unusedSimpArgs false
set_option linter.unusedVariables false
open Go.ChangeShapes Go.WideShapes Go.ChangeAt Go.RowKit

section
variable {H : Type} {enc : TypeId × Value → H}
theorem returnsInHanded_full {a : Assume} {C : Checked} {os : Os} {f : FuncId} {fn : Func} {s : ChangeSpec} {conds : List PathCond} {apart fresh handsOn again : Bool} {X : World → Array Value → Prop}
    (hX : ∀ (w w' : World) (args : Array Value), w.heap = w'.heap → X w args → X w' args)
    (own : ownKnob C.prog.godebug = none) (started : os.Started) (noInit : C.prog.inits.idxOf? f = none) (hfn : C.prog.funcs[f]? = some fn)
    (witness : ∃ (w : World) (tape : Tape) (i : Input), w.os = os ∧ (w.forCall tape i).Shaped C.prog ∧ i.vars = [] ∧ Input.okWide C.prog (w.forCall tape i) .any w.heap.size f i ∧
      ((s.pre enc C.prog fn conds apart (w.forCall tape i).memory i.args ∧ X (w.forCall tape i).memory i.args) ∧ sizedMet enc C.prog fn (OpenSpec.ofChange s) apart (w.forCall tape i).memory i.args) ∧ a.holds C.prog (lone (Frame.enter C.prog f i.args .normal) [] (w.forCall tape i)))
    (contract : ∀ (W : World) (base : Nat) (args : Array Value) (ds gs : List (DataW H)) (before : List MemPlace),
      (∀ (j : Nat) t v, fn.params[j]? = some t → args[j]? = some v → Value.okWide C.prog W .any base t v) →
      DataW.Whole enc C.prog fn.params.toList s.vars apart W args.toList ds gs before →
      conds.all (PathCond.test C.prog ⟨fn.params.toList, ds, s.plain.varTypes C.prog, gs⟩) = true →
      (DataW.weightsEach C.prog (fn.params.toList ++ s.plain.varTypes C.prog) (ds ++ gs)).all (· ≤ reachBytes) = true → X W args → W.ShapedOpen C.prog →
      a.holds C.prog (lone (Frame.enter C.prog f args .normal) [] W) →
      Calls C.prog f args W fun e W' => ∃ v, e = .returned v ∧ s.post enc C.prog fn apart fresh handsOn again W args v W') :
    ReturnsInHanded a C os f .any (fun w args => (s.pre enc C.prog fn conds apart w args ∧ X w args) ∧ sizedMet enc C.prog fn (OpenSpec.ofChange s) apart w args) (s.post enc C.prog fn apart fresh handsOn again) := by
  refine returnsInHanded_of_calls own started noInit witness ?_
  intro w tape i _ hsh _ hok hpre hholds
  obtain ⟨_, _, _, fn', hfn', _, _, _, _, hval⟩ := hok
  have e : fn' = fn := Option.some.inj (hfn'.symm.trans hfn)
  subst e
  obtain ⟨⟨⟨ds, gs, before, hw, hc⟩, hx⟩, hz⟩ := hpre
  have hw' := DataW.Whole.of_heap (w' := w.forCall tape i) (by rfl) hw
  refine (contract (w.forCall tape i) w.heap.size i.args ds gs before hval hw' hc (hz.weights hw) (hX _ _ _ (by rfl) hx) hsh hholds).mono fun e W' ⟨v, he, hp⟩ => ?_
  subst he
  exact ChangeSpec.post_blind hp
end
theorem ownT : ownKnob Tryz.prog.godebug = none := by kernel_rfl
theorem laidOutT : laidOutB Tryz.prog = true := by kernel_rfl
end Go.Proofs.YtbgmkplpolgebaaGreatDoor

namespace Go.Proofs.YtbgmkplpolgebaaGreatDoor
set_option linter.unusedSimpArgs false
set_option linter.unusedVariables false
open Go.Joins Go.ChangeShapes Go.WideShapes Go.RowKit Go.Deep

section
variable {H : Type} {enc : TypeId × Value → H} {P : Program} {w : World} {base : Nat} {spare : Nat → Bool} {held : Bool}
theorem open_aggN {r : Reach} {b0 : Nat} {t : TypeId} {fs : Array Field} {v : Value} {d : DataW H} {p : List MemPlace} (hs : P.underlying t = some (.struct fs)) (hone : oneCellFields P fs = true) (hC : P.cellsOf t = fs.size)
    (hv : Value.okWide P w r b0 t v) (h : DataW.Trod enc P w base spare held t v d p) :
    ∃ (cs : Array Value) (xs : List (DataW H × List MemPlace)) (n : Nat), v = .agg cs ∧ cs.size = fs.size ∧ d = .agg (xs.map (·.1)) ∧
      ∀ (j : Nat) (f : Field), fs[j]? = some f → ∃ (x : Value) (y : DataW H × List MemPlace), cs[j]? = some x ∧ xs[j]? = some y ∧ DataW.trod enc P w base spare held n f.type [x] = some y := by
  obtain ⟨cs, rfl, hsz⟩ := okWide_struct hs hv
  obtain ⟨fuel, hf⟩ := h
  obtain ⟨xs, n, _, hx, _, hlen, hg⟩ := DataW.trod_struct hs hf
  simp only [Prod.mk.injEq] at hx
  refine ⟨cs, xs, n, rfl, hsz.trans hC, hx.1, fun j f hj => ?_⟩
  obtain ⟨ho, hk⟩ := hone_of hone j f hj
  have hjl : j < fs.size := (Array.getElem?_eq_some_iff.1 hj).1
  have hjc : j < cs.size := by rw [hsz.trans hC]; exact hjl
  have h1 := hg j f hj
  rw [ho, hk] at h1
  have hone' : ((Value.agg cs).cells.toList.drop j).take 1 = [cs[j]] := by
    show (cs.toList.drop j).take 1 = _
    rw [List.drop_eq_getElem_cons (by simpa using hjc)]
    simp
  rw [hone'] at h1
  have hxl : j < xs.length := by rw [hlen]; exact hjl
  have hys : xs[j]? = some (xs[j]'hxl) := List.getElem?_eq_getElem hxl
  exact ⟨cs[j], xs[j]'hxl, by simp [hjc], hys, h1.trans hys⟩
end
end Go.Proofs.YtbgmkplpolgebaaGreatDoor

namespace Go.Proofs.YtbgmkplpolgebaaGreatDoor
set_option linter.unusedSimpArgs false
set_option linter.unusedVariables false
open Go.ChangeShapes Go.WideShapes Go.ChangeAt Go.RowKit Go.Deep

section
variable {H : Type} {enc : TypeId × Value → H} {w : World} {base : Nat} {spare : Nat → Bool} {held : Bool}
theorem open_strsT {fuel : Nat} {v : Value} {x : DataW H × List MemPlace} (h : DataW.trod enc Tryz.prog w base spare held fuel 23 [v] = some x) : ∃ a c p, v = .slice a p.length c ∧ StrsAt w a c p ∧ (a = none → c = 0) := by
  rcases open_strs Tryz.underlying23 Tryz.underlying9 (by kernel_rfl) h with ⟨hcs, -⟩ | ⟨a, len, cap, m, Sx, hcs, -, hl, hc, hm, hxx, hx⟩
  · simp at hcs
    subst hcs
    exact ⟨none, 0, [], rfl, ⟨by simp, by simp [maxLen], by simp, .inl rfl⟩, fun _ => rfl⟩
  · simp at hcs
    subst hcs
    have hlm : len ≤ m := by rw [hm]; split <;> omega
    refine ⟨some a, cap, (List.range len).map Sx, by simp, ⟨by simpa using hl, hc, fun s hs => ?_, ?_⟩, fun q => by cases q⟩
    · simp at hs
      obtain ⟨i, hi, rfl⟩ := hs
      exact (hx i (by omega)).2
    · by_cases hz : len = 0
      · exact .inl (by simp [hz])
      · have h0 := (hx 0 (by omega)).1
        obtain ⟨b, o, sp⟩ := a
        have hs : sp = none := cell_spot h0
        subst hs
        refine .inr ⟨b, o, rfl, World.block_lt_of_cell? _ _ h0, fun i s hi => ?_⟩
        simp only [List.getElem?_map, Option.map_eq_some_iff] at hi
        obtain ⟨j, hj, rfl⟩ := hi
        have hjl : j < len ∧ j = i := by
          have := List.getElem?_eq_some_iff.1 hj
          obtain ⟨hlt, he⟩ := this
          simp at hlt he
          omega
        obtain ⟨hjl, rfl⟩ := hjl
        have := (hx j (by omega)).1
        rw [add_none] at this
        exact this
theorem open_adrsT {fuel : Nat} {v : Value} {x : DataW H × List MemPlace} (h : DataW.trod enc Tryz.prog w base spare held fuel 24 [v] = some x) : ∃ a c l, v = .slice a l.length c ∧ AdrsAt w a c l ∧ (a = none → c = 0) := by
  rcases open_slice_fields Tryz.underlying24 Tryz.underlying64 (by kernel_rfl) (by kernel_rfl) h with ⟨hcs, _⟩ | ⟨a, len, cap, m, D, Pl, hcs, _, hl, hmx, hmm, hxx, hcell⟩
  · simp at hcs
    subst hcs
    exact ⟨none, 0, [], rfl, ⟨by simp, by simp [maxLen], by simp, .inl rfl⟩, fun _ => rfl⟩
  · simp at hcs
    subst hcs
    have hlm : len ≤ m := by rw [hmm]; split <;> omega
    have hc : ∀ i, i < len → ∃ f : AdrV, w.cell? (a.add (i * 3)) = some (.int .i64 f.fam) ∧ w.cell? (a.add (i * 3 + 1)) = some (.string f.ip) ∧ w.cell? (a.add (i * 3 + 2)) = some (.int .i64 f.port) ∧ f.ip.size ≤ maxLen := by
      intro i hi
      obtain ⟨ys, n, hD, _, _, hfs⟩ := hcell i (by omega)
      obtain ⟨u0, y0, e0, -, t0⟩ := hfs 0 _ rfl
      obtain ⟨u1, y1, e1, -, t1⟩ := hfs 1 _ rfl
      obtain ⟨u2, y2, e2, -, t2⟩ := hfs 2 _ rfl
      obtain ⟨x0, c0, -⟩ := DataW.trod_int Tryz.underlying3 t0
      obtain ⟨x1, c1, -, hs⟩ := DataW.trod_string Tryz.underlying9 t1
      obtain ⟨x2, c2, -⟩ := DataW.trod_int Tryz.underlying3 t2
      simp at c0 c1 c2
      subst c0 c1 c2
      exact ⟨⟨x0, x1, x2⟩, e0, e1, e2, hs⟩
    obtain ⟨L, hL, hp⟩ := list_of len hc
    subst hL
    refine ⟨some a, cap, L, rfl, ⟨hl, hmx, fun f hf => ?_, ?_⟩, fun q => by cases q⟩
    · obtain ⟨i, hi⟩ := List.getElem?_of_mem hf
      exact (hp i f hi).2.2.2
    · by_cases hz : L.length = 0
      · exact .inl (List.eq_nil_of_length_eq_zero hz)
      · obtain ⟨f, e0, -⟩ := hc 0 (by omega)
        have hs := cell_spot e0
        obtain ⟨b, o, sp⟩ := a
        have hs' : sp = none := hs
        subst hs'
        refine .inr ⟨b, o, rfl, World.block_lt_of_cell? _ _ e0, fun i f hf => ?_⟩
        obtain ⟨q0, q1, q2, -⟩ := hp i f hf
        rw [add_none] at q0 q1 q2
        exact ⟨q0, by simpa [Nat.add_assoc] using q1, by simpa [Nat.add_assoc] using q2⟩
theorem open_rnsT {fuel : Nat} {v : Value} {x : DataW H × List MemPlace} (h : DataW.trod enc Tryz.prog w base spare held fuel 25 [v] = some x) : ∃ a c l, v = .slice a l.length c ∧ RnsAt w a c l := by
  rcases open_slice_fields Tryz.underlying25 Tryz.underlying66 (by kernel_rfl) (by kernel_rfl) h with ⟨hcs, _⟩ | ⟨a, len, cap, m, D, Pl, hcs, _, hl, hmx, hmm, hxx, hcell⟩
  · simp at hcs
    subst hcs
    exact ⟨none, 0, [], rfl, ⟨by simp, by simp [maxLen], .inl rfl⟩⟩
  · simp at hcs
    subst hcs
    have hlm : len ≤ m := by rw [hmm]; split <;> omega
    have hc : ∀ i, i < len → ∃ f : Int × Int, w.cell? (a.add (i * 2)) = some (.int .i64 f.1) ∧ w.cell? (a.add (i * 2 + 1)) = some (.int .i64 f.2) := by
      intro i hi
      obtain ⟨ys, n, hD, _, _, hfs⟩ := hcell i (by omega)
      obtain ⟨u0, y0, e0, -, t0⟩ := hfs 0 _ rfl
      obtain ⟨u1, y1, e1, -, t1⟩ := hfs 1 _ rfl
      obtain ⟨x0, c0, -⟩ := DataW.trod_int Tryz.underlying3 t0
      obtain ⟨x1, c1, -⟩ := DataW.trod_int Tryz.underlying3 t1
      simp at c0 c1
      subst c0 c1
      exact ⟨⟨x0, x1⟩, e0, e1⟩
    obtain ⟨L, hL, hp⟩ := list_of len hc
    subst hL
    refine ⟨some a, cap, L, rfl, ⟨hl, hmx, ?_⟩⟩
    by_cases hz : L.length = 0
    · exact .inl (List.eq_nil_of_length_eq_zero hz)
    · obtain ⟨f, e0, -⟩ := hc 0 (by omega)
      have hs := cell_spot e0
      obtain ⟨b, o, sp⟩ := a
      have hs' : sp = none := hs
      subst hs'
      refine .inr ⟨b, o, rfl, World.block_lt_of_cell? _ _ e0, fun i f hf => ?_⟩
      obtain ⟨q0, q1⟩ := hp i f hf
      rw [add_none] at q0 q1
      exact ⟨q0, by simpa [Nat.add_assoc] using q1⟩
set_option maxRecDepth 100000 in
/-- A magnet. -/
theorem open_magX {r : Reach} {b0 : Nat} {v : Value} {d : DataW H} {p : List MemPlace} (hv : Value.okWide Tryz.prog w r b0 27 v) (h : DataW.Trod enc Tryz.prog w base spare held 27 v d p) :
    ∃ (m : MgV) (P : MgP), v = magVal m P ∧ MagAt w m P ∧ Tidy P := by
  obtain ⟨cs, xs, n, rfl, hsz, -, hf⟩ := open_aggN Tryz.underlying27 (by kernel_rfl) (by kernel_rfl) hv h
  obtain ⟨u0, y0, e0, -, t0⟩ := hf 0 _ rfl
  obtain ⟨u1, y1, e1, -, t1⟩ := hf 1 _ rfl
  obtain ⟨u2, y2, e2, -, t2⟩ := hf 2 _ rfl
  obtain ⟨u3, y3, e3, -, t3⟩ := hf 3 _ rfl
  obtain ⟨u4, y4, e4, -, t4⟩ := hf 4 _ rfl
  obtain ⟨u5, y5, e5, -, t5⟩ := hf 5 _ rfl
  obtain ⟨u6, y6, e6, -, t6⟩ := hf 6 _ rfl
  obtain ⟨s0, c0, -⟩ := DataW.trod_string Tryz.underlying9 t0
  obtain ⟨s1, c1, -⟩ := DataW.trod_string Tryz.underlying9 t1
  obtain ⟨s2, c2, -⟩ := DataW.trod_string Tryz.underlying9 t2
  simp at c0 c1 c2
  subst c0 c1 c2
  obtain ⟨ta, tc, T, rfl, hT, gT⟩ := open_strsT t3
  obtain ⟨pa, pc, P, rfl, hP, gP⟩ := open_adrsT t4
  obtain ⟨sa, sc, S, rfl, hS, gS⟩ := open_strsT t5
  obtain ⟨oa, oc, O, rfl, hO⟩ := open_rnsT t6
  refine ⟨⟨s0, s1, s2, T, P, S, O, false, false⟩, ⟨ta, tc, pa, pc, sa, sc, oa, oc⟩, ?_, ⟨hT, hP, hS, hO⟩, ⟨gT, gP, gS⟩⟩
  obtain ⟨q⟩ := cs
  match q, hsz with
  | [a, b, c, d, e, f, g], _ =>
    simp at e0 e1 e2 e3 e4 e5 e6
    simp only [magVal, magRow]
    rw [e0, e1, e2, e3, e4, e5, e6]
end
end Go.Proofs.YtbgmkplpolgebaaGreatDoor
