/-
  Several texts in one, in their build order. The walks of the functions that read a magnet's addresses and runs (package magnet). Conditions: the reader lies as told; the text is small; the library's variables are as laid. The walk of the function that reads a magnet's runs (package magnet). Conditions: the reader lies as told; the text is small; the library's variables are as laid.
-/
import Derived.Test.YtbgmkplpolgebaaGreatDoorM39
import Derived.Lib.ReplaceLaws
namespace Go.Proofs.YtbgmkplpolgebaaGreatDoor
set_option linter.unusedSimpArgs false
set_option linter.unusedVariables false
open Go.RowKit Go.Shelf

theorem peM_1 {m : MgV} {s : List UInt8} (h : loose s = none) : peM m s = .error 2 := by unfold peM; rw [h]
theorem peM_2 {m : MgV} {s x : List UInt8} (h : loose s = some x) (ha : aP x = none) : peM m s = .error 2 := by unfold peM; rw [h]; simp only; rw [ha]
theorem peM_3 {m : MgV} {s x : List UInt8} {a : AdrV} (h : loose s = some x) (ha : aP x = some a) (hl : 20 ≤ m.pe.length) : peM m s = .error 4 := by unfold peM; rw [h]; simp only; rw [ha]; simp only; rw [if_pos hl]
theorem peM_4 {m : MgV} {s x : List UInt8} {a : AdrV} (h : loose s = some x) (ha : aP x = some a) (hl : ¬ 20 ≤ m.pe.length) : peM m s = .ok { m with pe := m.pe ++ [a] } := by unfold peM; rw [h]; simp only; rw [ha]; simp only; rw [if_neg hl]
set_option maxRecDepth 100000 in
set_option maxHeartbeats 4000000 in
theorem pe_part (B base : Nat) (m : MgV) (r : RdM) (s : ByteArray) (w : World) (h : RdIs 49 w B base m r) (hs : s.size ≤ 65536) (hbs : base ≤ w.heap.size) (hv : VarP w) :
    Calls Tryz.prog 78 #[.pointer (some ⟨B, 0, none⟩), .string s] w fun e w' => PartQ B base w (peM m s.data.toList) e w' := by
  have H := hid h
  have HUN := hid (unescaped_any s w (by omega))
  have HMM : Hid (∀ W, New w W → Mod (fun k => k = B ∨ base ≤ k) w W) := hid (fun W n => New.mod n)
  have HL := hid (fun t q => loose_len _ s.data.toList (Nat.le_refl _) t q)
  have hlen : s.data.toList.length = s.size := by rw [Array.length_toList]; rfl
  have HV := hid hv
  have HSM := hs
  obtain ⟨X, hX⟩ : ∃ X, X = peM m s.data.toList := ⟨_, rfl⟩
  rw [← hX]
  have HXX := hid hX
  clear h hX hv
  cases hl : loose s.data.toList with
  | none =>
    rw [hl, hexR] at HUN
    have HXN := hid (HXX.out.trans (peM_1 hl))
    clear hl
    go_enter Tryz.func78, Tryz.ntmps78
    go_wp2_with fail
    refine HUN.out.mono ?_
    rintro e w1 ⟨rfl, n1⟩
    have N1 := hid n1
    clear n1
    go_wp2
    exact ⟨rfl, PartQ.no HXN.out (HMM.out _ N1.out)⟩
  | some t =>
    rw [hl, hexR] at HUN
    have hle := HL.out t hl
    have hTs : (⟨t.toArray⟩ : ByteArray).size = t.length := size_list t
    have HAP := hid (fun W (q : New w W) => aparse_any (mkB t) W (by rw [show (mkB t).size = t.length from size_list t]; omega) (HV.out.new q))
    rw [show (mkB t).data.toList = t from rfl] at HAP
    obtain ⟨T, hT⟩ : ∃ T : ByteArray, T = ⟨t.toArray⟩ := ⟨_, rfl⟩
    rw [show mkB t = T from hT.symm] at HAP
    rw [← hT] at HUN
    clear hT hTs
    cases ha : aP t with
    | none =>
      rw [ha, adrE] at HAP
      have HXN := hid (HXX.out.trans (peM_2 hl ha))
      clear hl ha
      go_enter Tryz.func78, Tryz.ntmps78
      go_wp2_with fail
      refine HUN.out.mono ?_
      rintro e w1 ⟨rfl, n1⟩
      have N1 := hid n1
      clear n1
      go_wp2_with fail
      refine (HAP.out _ N1.out).mono ?_
      rintro e w2 ⟨rfl, n2⟩
      have N2 := hid (N1.out.trans n2)
      clear n2
      go_wp2_with fail
      refine (need_no 2 _).mono ?_
      rintro e w3 ⟨rfl, rfl⟩
      go_wp2
      refine ⟨rfl, PartQ.no HXN.out (HMM.out _ ?_)⟩
      have q := N2.out
      have q2 := N2.out.size
      repeat (first | with_reducible exact q | with_reducible refine Mod.alloc ?_ _ | with_reducible refine Mod.drew ?_ | with_reducible refine Mod.drewN ?_ _ | (with_reducible refine Mod.set ?_ _ _ (by first | exact .inl rfl | (right; omega) | (right; simp; done) | (right; simp; omega) | (left; omega) | (left; simp; done) | (left; simp; omega))) | (with_reducible refine Mod.putObj ?_ _ _ (by first | exact .inl rfl | (right; omega) | (right; simp; done) | (right; simp; omega) | (left; omega) | (left; simp; done) | (left; simp; omega))))
    | some a =>
      rw [ha, adrE] at HAP
      by_cases hfull : 20 ≤ m.pe.length
      · have HXN := hid (HXX.out.trans (peM_3 hl ha hfull))
        clear hl ha
        go_enter Tryz.func78, Tryz.ntmps78
        go_wp2_with fail
        refine HUN.out.mono ?_
        rintro e w1 ⟨rfl, n1⟩
        have N1 := hid n1
        clear n1
        go_wp2_with fail
        refine (HAP.out _ N1.out).mono ?_
        rintro e w2 ⟨rfl, n2⟩
        have N2 := hid (N1.out.trans n2)
        clear n2
        go_wp2_with fail
        refine (need_yes 2 _).mono ?_
        rintro e w3 ⟨rfl, rfl⟩
        go_wp2_with fail
        refine name_worldA (p := fun W => Code.wp _ _ _ _ W) (fun W hW => ?_)
        have BXx : Blk W w2.heap.size #[.int .i64 a.fam, .string a.ip, .int .i64 a.port] 64 := by
          rw [hW]
          apply Blk.row
          · repeat (first | with_reducible exact HSM | (with_reducible apply Blk.newAt; (simp; done)) | with_reducible apply Blk.alloc | with_reducible apply Blk.drew | with_reducible apply Blk.drewN | with_reducible apply Blk.set | (with_reducible apply Blk.other; · first | (simp; done) | (simp; omega) | omega) | (with_reducible apply Blk.putObj; · first | (simp; done) | (simp; omega) | omega))
          · rfl
        have NWx : New w W := by
          rw [hW]
          have q := N2.out
          have q2 := N2.out.size
          repeat (first | with_reducible exact q | with_reducible refine Mod.alloc ?_ _ | with_reducible refine Mod.drew ?_ | with_reducible refine Mod.drewN ?_ _ | (with_reducible refine Mod.set ?_ _ _ (by first | exact .inl rfl | (right; omega) | (right; simp; done) | (right; simp; omega) | (left; omega) | (left; simp; done) | (left; simp; omega))) | (with_reducible refine Mod.putObj ?_ _ _ (by first | exact .inl rfl | (right; omega) | (right; simp; done) | (right; simp; omega) | (left; omega) | (left; simp; done) | (left; simp; omega))))
        have BX := hid BXx; have NW := hid NWx
        have hws : w2.heap.size < W.heap.size := BXx.lt
        clear hW BXx NWx
        have HW := hid (H.out.next NW.out)
        have x0 : W.drew.cell? ⟨w2.heap.size, 0, none⟩ = some (.int .i64 a.fam) := BX.out.cellv 0 rfl
        have x1 : W.drew.cell? ⟨w2.heap.size, 1, none⟩ = some (.string a.ip) := BX.out.cellv 1 rfl
        have x2 : W.drew.cell? ⟨w2.heap.size, 2, none⟩ = some (.int .i64 a.port) := BX.out.cellv 2 rfl
        have b4 : W.drew.cell? ⟨B, 4, none⟩ = some r.pe := HW.out.blk.cellv 4 rfl
        have OA : Hid (OwnA W.drew base r.pe m.pe) := hid (OwnA.new ⟨HW.out.pe⟩ (Mod.refl _ W).drew)
        refine wp_region_held_drew (S := (fun w' => w'.cell? ⟨w2.heap.size, 0, none⟩ = some (.int .i64 a.fam) ∧ w'.cell? ⟨w2.heap.size, 1, none⟩ = some (.string a.ip) ∧ w'.cell? ⟨w2.heap.size, 2, none⟩ = some (.int .i64 a.port))) (by kernel_rfl) ⟨x0, x1, x2⟩ (fun hHeld => ?_)
        refine tk (v := ?_) 0 ?_ ?_
        rotate_left
        · intro w hSw
          (try dsimp only at hSw)
          first | (go_simp; done) | (go_simp; with_reducible rfl) | with_reducible rfl
        simp only [Act.put, List.setIfInBounds_toArray, List.set_cons_zero, List.set_cons_succ]
        refine tk (v := ?_) 1 ?_ ?_
        rotate_left
        · intro w hSw
          (try dsimp only at hSw)
          first | (go_simp; done) | (go_simp; with_reducible rfl) | with_reducible rfl
        simp only [Act.put, List.setIfInBounds_toArray, List.set_cons_zero, List.set_cons_succ]
        refine tk (v := ?_) 2 ?_ ?_
        rotate_left
        · intro w hSw
          (try dsimp only at hSw)
          first | (go_simp; done) | (go_simp; with_reducible rfl) | with_reducible rfl
        simp only [Act.put, List.setIfInBounds_toArray, List.set_cons_zero, List.set_cons_succ]
        refine tk (v := ?_) 3 ?_ ?_
        rotate_left
        · intro w hSw
          (try dsimp only at hSw)
          first | (go_simp; done) | (go_simp; with_reducible rfl) | with_reducible rfl
        simp only [Act.put, List.setIfInBounds_toArray, List.set_cons_zero, List.set_cons_succ]
        refine tk (v := ?_) 4 ?_ ?_
        rotate_left
        · intro w hSw
          (try dsimp only at hSw)
          first | (go_simp; done) | (go_simp; with_reducible rfl) | with_reducible rfl
        simp only [Act.put, List.setIfInBounds_toArray, List.set_cons_zero, List.set_cons_succ]
        refine tk (v := ?_) 6 ?_ ?_
        rotate_left
        · intro w hSw
          (try dsimp only at hSw)
          first | (go_simp; done) | (go_simp; with_reducible rfl) | with_reducible rfl
        simp only [Act.put, List.setIfInBounds_toArray, List.set_cons_zero, List.set_cons_succ]
        refine wpAnyH_ready (rs := [5]) (by kernel_rfl) (by simp) ?_
        refine AllReadyH.cons (by simp only [List.getElem?_toArray, List.getElem?_cons_succ, List.getElem?_cons_zero]; rfl) (fun K hK => ?_) AllReadyH.nil
        go_simp
        refine hK.out _ _ ⟨x0, x1, x2⟩ (fun hHeld5 => ?_)
        clear hK K
        try simp only [Act.put, List.setIfInBounds_toArray, List.set_cons_zero, List.set_cons_succ]
        refine wpAnyH_ready (rs := [7]) (by kernel_rfl) (by simp) ?_
        refine AllReadyH.cons (by simp only [List.getElem?_toArray, List.getElem?_cons_succ, List.getElem?_cons_zero]; rfl) (fun K hK => ?_) AllReadyH.nil
        go_simp
        go_at_call 80
        refine (aadded_no base _ _ a _ OA.out hfull).mono ?_
        rintro e w4 ⟨rfl, n4⟩
        exact ⟨rfl, PartQ.no HXN.out (HMM.out _ (NW.out.drew.trans n4))⟩
      · have HXN := hid (HXX.out.trans (peM_4 hl ha hfull))
        clear hl ha
        go_enter Tryz.func78, Tryz.ntmps78
        go_wp2_with fail
        refine HUN.out.mono ?_
        rintro e w1 ⟨rfl, n1⟩
        have N1 := hid n1
        clear n1
        go_wp2_with fail
        refine (HAP.out _ N1.out).mono ?_
        rintro e w2 ⟨rfl, n2⟩
        have N2 := hid (N1.out.trans n2)
        clear n2
        go_wp2_with fail
        refine (need_yes 2 _).mono ?_
        rintro e w3 ⟨rfl, rfl⟩
        go_wp2_with fail
        refine name_worldA (p := fun W => Code.wp _ _ _ _ W) (fun W hW => ?_)
        have BXx : Blk W w2.heap.size #[.int .i64 a.fam, .string a.ip, .int .i64 a.port] 64 := by
          rw [hW]
          apply Blk.row
          · repeat (first | with_reducible exact HSM | (with_reducible apply Blk.newAt; (simp; done)) | with_reducible apply Blk.alloc | with_reducible apply Blk.drew | with_reducible apply Blk.drewN | with_reducible apply Blk.set | (with_reducible apply Blk.other; · first | (simp; done) | (simp; omega) | omega) | (with_reducible apply Blk.putObj; · first | (simp; done) | (simp; omega) | omega))
          · rfl
        have NWx : New w W := by
          rw [hW]
          have q := N2.out
          have q2 := N2.out.size
          repeat (first | with_reducible exact q | with_reducible refine Mod.alloc ?_ _ | with_reducible refine Mod.drew ?_ | with_reducible refine Mod.drewN ?_ _ | (with_reducible refine Mod.set ?_ _ _ (by first | exact .inl rfl | (right; omega) | (right; simp; done) | (right; simp; omega) | (left; omega) | (left; simp; done) | (left; simp; omega))) | (with_reducible refine Mod.putObj ?_ _ _ (by first | exact .inl rfl | (right; omega) | (right; simp; done) | (right; simp; omega) | (left; omega) | (left; simp; done) | (left; simp; omega))))
        have BX := hid BXx; have NW := hid NWx
        have hws : w2.heap.size < W.heap.size := BXx.lt
        clear hW BXx NWx
        have HW := hid (H.out.next NW.out)
        have x0 : W.drew.cell? ⟨w2.heap.size, 0, none⟩ = some (.int .i64 a.fam) := BX.out.cellv 0 rfl
        have x1 : W.drew.cell? ⟨w2.heap.size, 1, none⟩ = some (.string a.ip) := BX.out.cellv 1 rfl
        have x2 : W.drew.cell? ⟨w2.heap.size, 2, none⟩ = some (.int .i64 a.port) := BX.out.cellv 2 rfl
        have b4 : W.drew.cell? ⟨B, 4, none⟩ = some r.pe := HW.out.blk.cellv 4 rfl
        have OA : Hid (OwnA W.drew base r.pe m.pe) := hid (OwnA.new ⟨HW.out.pe⟩ (Mod.refl _ W).drew)
        refine wp_region_held_drew (S := (fun w' => w'.cell? ⟨w2.heap.size, 0, none⟩ = some (.int .i64 a.fam) ∧ w'.cell? ⟨w2.heap.size, 1, none⟩ = some (.string a.ip) ∧ w'.cell? ⟨w2.heap.size, 2, none⟩ = some (.int .i64 a.port))) (by kernel_rfl) ⟨x0, x1, x2⟩ (fun hHeld => ?_)
        refine tk (v := ?_) 0 ?_ ?_
        rotate_left
        · intro w hSw
          (try dsimp only at hSw)
          first | (go_simp; done) | (go_simp; with_reducible rfl) | with_reducible rfl
        simp only [Act.put, List.setIfInBounds_toArray, List.set_cons_zero, List.set_cons_succ]
        refine tk (v := ?_) 1 ?_ ?_
        rotate_left
        · intro w hSw
          (try dsimp only at hSw)
          first | (go_simp; done) | (go_simp; with_reducible rfl) | with_reducible rfl
        simp only [Act.put, List.setIfInBounds_toArray, List.set_cons_zero, List.set_cons_succ]
        refine tk (v := ?_) 2 ?_ ?_
        rotate_left
        · intro w hSw
          (try dsimp only at hSw)
          first | (go_simp; done) | (go_simp; with_reducible rfl) | with_reducible rfl
        simp only [Act.put, List.setIfInBounds_toArray, List.set_cons_zero, List.set_cons_succ]
        refine tk (v := ?_) 3 ?_ ?_
        rotate_left
        · intro w hSw
          (try dsimp only at hSw)
          first | (go_simp; done) | (go_simp; with_reducible rfl) | with_reducible rfl
        simp only [Act.put, List.setIfInBounds_toArray, List.set_cons_zero, List.set_cons_succ]
        refine tk (v := ?_) 4 ?_ ?_
        rotate_left
        · intro w hSw
          (try dsimp only at hSw)
          first | (go_simp; done) | (go_simp; with_reducible rfl) | with_reducible rfl
        simp only [Act.put, List.setIfInBounds_toArray, List.set_cons_zero, List.set_cons_succ]
        refine tk (v := ?_) 6 ?_ ?_
        rotate_left
        · intro w hSw
          (try dsimp only at hSw)
          first | (go_simp; done) | (go_simp; with_reducible rfl) | with_reducible rfl
        simp only [Act.put, List.setIfInBounds_toArray, List.set_cons_zero, List.set_cons_succ]
        refine wpAnyH_ready (rs := [5]) (by kernel_rfl) (by simp) ?_
        refine AllReadyH.cons (by simp only [List.getElem?_toArray, List.getElem?_cons_succ, List.getElem?_cons_zero]; rfl) (fun K hK => ?_) AllReadyH.nil
        go_simp
        refine hK.out _ _ ⟨x0, x1, x2⟩ (fun hHeld5 => ?_)
        clear hK K
        try simp only [Act.put, List.setIfInBounds_toArray, List.set_cons_zero, List.set_cons_succ]
        refine wpAnyH_ready (rs := [7]) (by kernel_rfl) (by simp) ?_
        refine AllReadyH.cons (by simp only [List.getElem?_toArray, List.getElem?_cons_succ, List.getElem?_cons_zero]; rfl) (fun K hK => ?_) AllReadyH.nil
        go_simp
        go_at_call 80
        refine (aadded_yes base _ _ a _ OA.out (by omega) (Nat.le_trans hbs NW.out.drew.size)).mono ?_
        rintro e w4 ⟨o, rfl, ho, hm, hob⟩
        obtain ⟨oa, oc, hof⟩ := ho.form
        rw [List.length_append, List.length_singleton] at hof
        subst hof
        have hH := HW.out.next ((Mod.refl _ W).drew)
        have hR := RdIs.pePut hH hm ho hob
        have hB2 := hm.blk hH.blk (fun q => by have := (rowBlock hH.pe q).1; have := hH.low; omega)
        have bc : w4.cell? ⟨B, 4, none⟩ = some r.pe := hB2.cellv 4 rfl
        have bl := hB2.lt
        have bf := hB2.frz 4
        have HR := hid hR
        have HM2 : Hid (Mod (fun k => k = B ∨ base ≤ k) w w4) := hid ((HMM.out _ NW.out.drew).trans (hm.mono (fun k _ q => .inr (rowBlock hH.pe q).1)))
        have hm' := hid hm
        clear ho hm hob hR hB2 hH
        try dsimp only
        have BX4 := hid (hm'.out.blk (BX.out.drew) (fun q => by have := (rowBlock (H.out.next N2.out).pe q).2; omega))
        have z0 := BX4.out.cellv 0 rfl; have z1 := BX4.out.cellv 1 rfl; have z2 := BX4.out.cellv 2 rfl
        refine hK.out _ _ ⟨z0, z1, z2⟩ (fun hHeld7 => ?_)
        clear hK K
        try simp only [Act.put, List.setIfInBounds_toArray, List.set_cons_zero, List.set_cons_succ]
        refine tk (v := ?_) 8 ?_ ?_
        rotate_left
        · intro w hSw
          (try dsimp only at hSw)
          first | (go_simp; done) | (go_simp; with_reducible rfl) | with_reducible rfl
        simp only [Act.put, List.setIfInBounds_toArray, List.set_cons_zero, List.set_cons_succ]
        refine tk (v := ?_) 9 ?_ ?_
        rotate_left
        · intro w hSw
          (try dsimp only at hSw)
          first | (go_simp; done) | (go_simp; with_reducible rfl) | with_reducible rfl
        simp only [Act.put, List.setIfInBounds_toArray, List.set_cons_zero, List.set_cons_succ]
        refine tk (v := ?_) 10 ?_ ?_
        rotate_left
        · intro w hSw
          (try dsimp only at hSw)
          first | (go_simp; done) | (go_simp; with_reducible rfl) | with_reducible rfl
        simp only [Act.put, List.setIfInBounds_toArray, List.set_cons_zero, List.set_cons_succ]
        have BX5 := hid (BX4.out.other (p := ⟨B, 4, none⟩) (u := .slice oa (m.pe.length + 1) oc) (by have := H.out.blk.lt; have := N2.out.size; show w2.heap.size ≠ B; omega))
        refine wpAnyH_ready (rs := [11]) (by kernel_rfl) (by simp) ?_
        refine AllReadyH.cons (by simp only [List.getElem?_toArray, List.getElem?_cons_succ, List.getElem?_cons_zero]; rfl) (fun K hK => ?_) AllReadyH.nil
        go_simp
        refine hK.out _ _ ⟨BX5.out.cellv 0 rfl, BX5.out.cellv 1 rfl, BX5.out.cellv 2 rfl⟩ (fun hHeld11 => ?_)
        clear hK K
        try simp only [Act.put, List.setIfInBounds_toArray, List.set_cons_zero, List.set_cons_succ]
        refine wpAnyH_done (by kernel_rfl) ?_ _
        go_wp2
        go_end0
        exact PartQ.yes HXN.out HR.out (HM2.out.set _ _ (.inl (.inl rfl)))
end Go.Proofs.YtbgmkplpolgebaaGreatDoor

namespace Go.Proofs.YtbgmkplpolgebaaGreatDoor
set_option linter.unusedSimpArgs false
set_option linter.unusedVariables false
open Go.RowKit Go.Shelf

theorem soM_1 {m : MgV} {s : List UInt8} (h : bitsP 40 (rep2 s) = none) : soM m s = .error 2 := by unfold soM; rw [h]
theorem soM_2 {m : MgV} {s f : List UInt8} (h : bitsP 40 (rep2 s) = some f) (h0 : rep2 s = []) : soM m s = .error 2 := by unfold soM; rw [h]; simp only; rw [if_pos h0]
theorem soM_3 {m : MgV} {s f : List UInt8} (h : bitsP 40 (rep2 s) = some f) (h0 : rep2 s ≠ []) (ho : m.only = true) : soM m s = .error 6 := by unfold soM; rw [h]; simp only; rw [if_neg h0, if_pos ho]
theorem soM_4 {m : MgV} {s f : List UInt8} (h : bitsP 40 (rep2 s) = some f) (h0 : rep2 s ≠ []) (ho : m.only = false) : soM m s = .ok { m with on := runsF 40 f, only := true } := by unfold soM; rw [h]; simp only; rw [if_neg h0, if_neg (by rw [ho]; decide)]
theorem rep2_len (s : List UInt8) : (rep2 s).length ≤ s.length := by
  rw [← rep2_eq s.length s rfl]
  exact Nat.le_trans (rep_len 99 _ _ rfl) (rep_len 67 _ _ rfl)
theorem mkB_size (l : List UInt8) : (mkB l).size = l.length := size_list l
/-- One replacement. -/
theorem rep_any (c : UInt8) (s : ByteArray) (w : World) (hv : VarP w) (hs : s.size ≤ 70000) :
    Calls Tryz.prog 82 #[.string s, .string ⟨#[37, 50, c]⟩, .string ⟨#[44]⟩] w fun e w' => e = .returned (.string (mkB (rep c s.data.toList))) ∧ New w w' := by
  obtain ⟨m, hm⟩ := hv.max
  have hc : Lib.countB s ⟨#[37, 50, c]⟩ ≤ s.size := Lib.countB_le _ (by show 1 ≤ 3; omega) _ s (Nat.le_refl _)
  refine (Tryz.strings_ReplaceAll s ⟨#[37, 50, c]⟩ ⟨#[44]⟩ m w (by omega) hm (by show 1 ≤ 3; omega) (by rw [show (⟨#[44]⟩ : ByteArray).size = 1 from rfl]; omega)).mono ?_
  rintro e w' ⟨rfl, hb⟩
  refine ⟨?_, Mod.newOfM (Mod.of_below hb) (fun k h1 h2 => by omega)⟩
  rw [show (⟨#[37, 50, c]⟩ : ByteArray).data.toList = [37, 50, c] from rfl, show (⟨#[44]⟩ : ByteArray).data.toList = [44] from rfl, repAll]
  rfl
set_option maxRecDepth 100000 in
set_option maxHeartbeats 4000000 in
theorem so_part (B base : Nat) (m : MgV) (r : RdM) (s : ByteArray) (w : World) (h : RdIs 49 w B base m r) (hs : s.size ≤ 65536) (hbs : base ≤ w.heap.size) (hv : VarP w) :
    Calls Tryz.prog 81 #[.pointer (some ⟨B, 0, none⟩), .string s] w fun e w' => PartQ B base w (soM m s.data.toList) e w' := by
  have H := hid h
  have HON := hid h.only
  have HMM : Hid (∀ W, New w W → Mod (fun k => k = B ∨ base ≤ k) w W) := hid (fun W n => New.mod n)
  have hlen : s.data.toList.length = s.size := by rw [Array.length_toList]; rfl
  have h67 := rep_len 67 _ s.data.toList rfl
  have hr2 := rep2_len s.data.toList
  have HR1 := hid (rep_any 67 s w hv (by omega))
  have HR2 := hid (fun W (n : New w W) => rep_any 99 (mkB (rep 67 s.data.toList)) W (hv.new n) (by rw [mkB_size]; omega))
  rw [show (mkB (rep 67 s.data.toList)).data.toList = rep 67 s.data.toList from rfl, rep2_eq _ s.data.toList rfl] at HR2
  have HBP := hid (fun W (n : New w W) => bParse_any 40 (mkB (rep2 s.data.toList)) W (by omega) (by rw [mkB_size]; omega) (hv.new n))
  rw [show (mkB (rep2 s.data.toList)).data.toList = rep2 s.data.toList from rfl] at HBP
  have HRU := hid (fun W f (n : New w W) (q : FieldOf 40 f) => bRuns_any 40 (mkB f) W q (by omega))
  have hs1 : (mkB (rep 67 s.data.toList)).size ≤ 65536 := by rw [mkB_size]; omega
  obtain ⟨X, hX⟩ : ∃ X, X = soM m s.data.toList := ⟨_, rfl⟩
  rw [← hX]
  have HXX := hid hX
  have HX1 := hid (fun q => hX.trans (soM_1 (m := m) (s := s.data.toList) q))
  have HX2 := hid (fun f q q2 => hX.trans (soM_2 (m := m) (s := s.data.toList) (f := f) q q2))
  have HX3 := hid (fun f q q2 q3 => hX.trans (soM_3 (m := m) (s := s.data.toList) (f := f) q q2 q3))
  have HX4 := hid (fun f q q2 q3 => hX.trans (soM_4 (m := m) (s := s.data.toList) (f := f) q q2 q3))
  obtain ⟨R, hR⟩ : ∃ R, R = rep2 s.data.toList := ⟨_, rfl⟩
  obtain ⟨R1, hR1⟩ : ∃ R1, R1 = mkB (rep 67 s.data.toList) := ⟨_, rfl⟩
  rw [← hR] at HBP HX1 HX2 HX3 HX4 HR2
  have hR1' : mkB (rep 67 s.data.toList) = R1 := hR1.symm
  rw [hR1'] at HR1 HR2
  have hRs : (mkB R).size ≤ 65536 := by rw [mkB_size, hR]; omega
  clear h hX hv h67 hr2 hR hR1 hR1' hs1
  by_cases h0 : R = []
  · have hte : ((mkB R).toList == []) = true := by rw [beq_iff_eq, ByteArray.toList_eq]; exact h0
    have htI : (mkB R).toList.isEmpty = true := by rw [ByteArray.toList_eq, show (mkB R).data.toList = R from rfl, h0]; rfl
    have hne : ((mkB R).toList != []) = false := by rw [bne, hte]; rfl
    cases hb : bitsP 40 R with
    | none =>
      have HXN := hid (HX1.out hb)
      rw [hb, bpE] at HBP
      clear h0 hb
      go_enter Tryz.func81, Tryz.ntmps81
      go_wp2_with fail
      refine HR1.out.mono ?_
      rintro e w1 ⟨rfl, n1⟩
      have N1 := hid n1
      clear n1
      go_wp2_with fail
      refine (HR2.out _ N1.out).mono ?_
      rintro e w2 ⟨rfl, n2⟩
      have N2 := hid (N1.out.trans n2)
      clear n2
      go_wp2_with fail
      refine (HBP.out _ N2.out).mono ?_
      rintro e w3 ⟨rfl, n3⟩
      have N3 := hid (N2.out.trans n3)
      have H3 := hid (H.out.next N3.out)
      have b8 : w3.cell? ⟨B, 8, none⟩ = some (.bool r.only) := H3.out.blk.cellv 8 rfl
      rw [HON.out] at b8
      clear n3
      go_wp2_with fail
      refine (need_no 2 _).mono ?_
      rintro e w4 ⟨rfl, rfl⟩
      go_wp2
      exact ⟨rfl, PartQ.no HXN.out (HMM.out _ N3.out)⟩
    | some f =>
      have HXN := hid (HX2.out f hb h0)
      rw [hb, bpE] at HBP
      clear h0 hb
      go_enter Tryz.func81, Tryz.ntmps81
      go_wp2_with fail
      refine HR1.out.mono ?_
      rintro e w1 ⟨rfl, n1⟩
      have N1 := hid n1
      clear n1
      go_wp2_with fail
      refine (HR2.out _ N1.out).mono ?_
      rintro e w2 ⟨rfl, n2⟩
      have N2 := hid (N1.out.trans n2)
      clear n2
      go_wp2_with fail
      refine (HBP.out _ N2.out).mono ?_
      rintro e w3 ⟨rfl, n3⟩
      have N3 := hid (N2.out.trans n3)
      have H3 := hid (H.out.next N3.out)
      have b8 : w3.cell? ⟨B, 8, none⟩ = some (.bool r.only) := H3.out.blk.cellv 8 rfl
      rw [HON.out] at b8
      clear n3
      go_wp2_with fail
      refine (need_no 2 _).mono ?_
      rintro e w4 ⟨rfl, rfl⟩
      go_wp2
      exact ⟨rfl, PartQ.no HXN.out (HMM.out _ N3.out)⟩
  · have hte : ((mkB R).toList == []) = false := by rw [beq_eq_false_iff_ne, ByteArray.toList_eq]; exact h0
    have htI : (mkB R).toList.isEmpty = false := by
      rw [ByteArray.toList_eq, show (mkB R).data.toList = R from rfl]
      cases R with
      | nil => exact absurd rfl h0
      | cons x y => rfl
    have hne : ((mkB R).toList != []) = true := by rw [bne, hte]; rfl
    cases hb : bitsP 40 R with
    | none =>
      have HXN := hid (HX1.out hb)
      rw [hb, bpE] at HBP
      clear h0 hb
      go_enter Tryz.func81, Tryz.ntmps81
      go_wp2_with fail
      refine HR1.out.mono ?_
      rintro e w1 ⟨rfl, n1⟩
      have N1 := hid n1
      clear n1
      go_wp2_with fail
      refine (HR2.out _ N1.out).mono ?_
      rintro e w2 ⟨rfl, n2⟩
      have N2 := hid (N1.out.trans n2)
      clear n2
      go_wp2_with fail
      refine (HBP.out _ N2.out).mono ?_
      rintro e w3 ⟨rfl, n3⟩
      have N3 := hid (N2.out.trans n3)
      have H3 := hid (H.out.next N3.out)
      have b8 : w3.cell? ⟨B, 8, none⟩ = some (.bool r.only) := H3.out.blk.cellv 8 rfl
      rw [HON.out] at b8
      clear n3
      go_wp2_with fail
      refine (need_no 2 _).mono ?_
      rintro e w4 ⟨rfl, rfl⟩
      go_wp2
      exact ⟨rfl, PartQ.no HXN.out (HMM.out _ N3.out)⟩
    | some f =>
      rw [hb, bpE] at HBP
      have HF := hid (bitsP_field hb)
      cases hon : m.only with
      | true =>
        have HXN := hid (HX3.out f hb h0 hon)
        rw [hon] at HON
        clear h0 hb hon
        go_enter Tryz.func81, Tryz.ntmps81
        go_wp2_with fail
        refine HR1.out.mono ?_
        rintro e w1 ⟨rfl, n1⟩
        have N1 := hid n1
        clear n1
        go_wp2_with fail
        refine (HR2.out _ N1.out).mono ?_
        rintro e w2 ⟨rfl, n2⟩
        have N2 := hid (N1.out.trans n2)
        clear n2
        go_wp2_with fail
        refine (HBP.out _ N2.out).mono ?_
        rintro e w3 ⟨rfl, n3⟩
        have N3 := hid (N2.out.trans n3)
        have H3 := hid (H.out.next N3.out)
        have b8 : w3.cell? ⟨B, 8, none⟩ = some (.bool r.only) := H3.out.blk.cellv 8 rfl
        rw [HON.out] at b8
        clear n3
        go_wp2_with fail
        refine (need_yes 2 _).mono ?_
        rintro e w4 ⟨rfl, rfl⟩
        go_wp2_with fail
        refine (need_no 6 _).mono ?_
        rintro e w4 ⟨rfl, rfl⟩
        go_wp2
        exact ⟨rfl, PartQ.no HXN.out (HMM.out _ N3.out)⟩
      | false =>
        have HXN := hid (HX4.out f hb h0 hon)
        have HON2 := hid hon
        rw [hon] at HON
        clear h0 hb hon
        go_enter Tryz.func81, Tryz.ntmps81
        go_wp2_with fail
        refine HR1.out.mono ?_
        rintro e w1 ⟨rfl, n1⟩
        have N1 := hid n1
        clear n1
        go_wp2_with fail
        refine (HR2.out _ N1.out).mono ?_
        rintro e w2 ⟨rfl, n2⟩
        have N2 := hid (N1.out.trans n2)
        clear n2
        go_wp2_with fail
        refine (HBP.out _ N2.out).mono ?_
        rintro e w3 ⟨rfl, n3⟩
        have N3 := hid (N2.out.trans n3)
        have H3 := hid (H.out.next N3.out)
        have b8 : w3.cell? ⟨B, 8, none⟩ = some (.bool r.only) := H3.out.blk.cellv 8 rfl
        rw [HON.out] at b8
        clear n3
        go_wp2_with fail
        refine (need_yes 2 _).mono ?_
        rintro e w4 ⟨rfl, rfl⟩
        go_wp2_with fail
        refine (need_yes 6 _).mono ?_
        rintro e w4 ⟨rfl, rfl⟩
        go_wp2_with fail
        refine (HRU.out _ f N3.out HF.out).mono ?_
        rintro e w5 ⟨v, rfl, ho, n5⟩
        rw [show (mkB f).data.toList = f from rfl] at ho
        have hblk : ∀ k, v.ownBlock = some k → w3.heap.size ≤ k := fun k q => (rowBlock ho q).1
        obtain ⟨va, vc, rfl, -⟩ := ho.form
        have hRd := RdIs.onPut H3.out n5 (ho.base (Nat.le_trans hbs N3.out.size)) hblk
        have hB5 := New.blk n5 H3.out.blk
        have d6 : w5.cell? ⟨B, 6, none⟩ = some r.on := hB5.cellv 6 rfl
        have d8 : w5.cell? ⟨B, 8, none⟩ = some (.bool r.only) := hB5.cellv 8 rfl
        have bl := hB5.lt
        have bf := hB5.frz
        have HRD := hid hRd
        have N5 := hid (N3.out.trans n5)
        clear ho n5 hblk hRd hB5 b8
        go_wp2
        go_end0
        refine PartQ.yes HXN.out (r := { { r with on := .slice va (runsF 40 f).length vc } with only := true }) (HRD.out.turn ((Mod.refl _ _).set _ _ (.inl rfl)) ((HRD.out.blk.set 8 (.bool true)).row rfl) rfl rfl rfl rfl rfl rfl rfl rfl HRD.out.old HRD.out.new HRD.out.name HRD.out.named rfl) (((HMM.out _ N5.out).set _ _ (.inl (.inl rfl))).set _ _ (.inl (.inl rfl)))
end Go.Proofs.YtbgmkplpolgebaaGreatDoor
