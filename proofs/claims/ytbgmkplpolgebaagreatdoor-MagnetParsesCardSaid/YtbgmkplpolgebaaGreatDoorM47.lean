/-
  Several texts in one, in their build order. The walk of the reference's Parse of magnets, for any text. Condition: the text's length is a length.
-/
import Derived.Test.YtbgmkplpolgebaaGreatDoorM46
namespace Go.Proofs.YtbgmkplpolgebaaGreatDoor
set_option linter.unusedSimpArgs false
set_option linter.unusedVariables false
open Go.RowKit Go.Shelf

theorem rmp_results (tmps : Array Value) (w : World) (p : Nat) (m0 m1 m2 m3 m4 m5 m6 x : Value) (hp : Blk w p #[m0, m1, m2, m3, m4, m5, m6] 27)
    (h2 : tmps.getD 2 undef = .pointer (some ⟨p, 0, none⟩)) (h3 : tmps.getD 3 undef = x) :
    (results Tryz.f9 tmps).run Tryz.prog w = .ok (.tuple #[.agg #[m0, m1, m2, m3, m4, m5, m6], x]) w := by
  have p0 := hp.cellv 0 rfl; have p1 := hp.cellv 1 rfl; have p2 := hp.cellv 2 rfl; have p3 := hp.cellv 3 rfl; have p4 := hp.cellv 4 rfl; have p5 := hp.cellv 5 rfl; have p6 := hp.cellv 6 rfl
  have h2' : tmps[2]?.getD undef = .pointer (some ⟨p, 0, none⟩) := by simpa using h2
  have h3' : tmps[3]?.getD undef = x := by simpa using h3
  simp [results, Tryz.results9, h2', h3', asAddr, go_sem, p0, p1, p2, p3, p4, p5, p6, Result.andThen]
theorem topM_err {m : MgV} {s : ByteArray} {k : Int} (h : topM m s = .error k) : k ≠ 0 := by
  unfold topM topicR at h
  have hO : ∀ {r : RdM} {k : Int}, tO r s = .error k → k ≠ 0 := by
    intro r k h
    unfold tO at h
    split at h
    · split at h
      · cases h; decide
      · split at h
        · cases h; decide
        · split at h
          · cases h; decide
          · cases h
    · cases h
  have hN : ∀ {r : RdM} {k : Int}, tN r s = .error k → k ≠ 0 := by
    intro r k h
    unfold tN at h
    split at h
    · split at h
      · cases h; decide
      · split at h
        · cases h; decide
        · split at h
          · cases h; decide
          · cases h
    · cases h
  cases h1 : tO (rdZero m) s with
  | error k' => rw [h1] at h; injection h with h; subst h; exact hO h1
  | ok q =>
    rw [h1] at h
    simp only at h
    cases h2 : tN q s with
    | error k' => rw [h2] at h; injection h with h; subst h; exact hN h2
    | ok q' => rw [h2] at h; cases h
theorem nameM_err {m : MgV} {s : List UInt8} {k : Int} (h : nameM m s = .error k) : k ≠ 0 := by
  unfold nameM at h
  split at h
  · cases h; decide
  · split at h
    · cases h; decide
    · split at h
      · cases h; decide
      · cases h
theorem textP_err {l : List ByteArray} {s : List UInt8} {k : Int} (h : textP l s = .error k) : k ≠ 0 := by
  unfold textP at h
  split at h
  · cases h; decide
  · split at h
    · cases h; decide
    · split at h
      · cases h; decide
      · cases h
theorem trM_err {m : MgV} {s : List UInt8} {k : Int} (h : trM m s = .error k) : k ≠ 0 := by
  unfold trM at h
  cases h1 : textP m.tr s with
  | error k' => rw [h1] at h; injection h with h; subst h; exact textP_err h1
  | ok l => rw [h1] at h; cases h
theorem wsM_err {m : MgV} {s : List UInt8} {k : Int} (h : wsM m s = .error k) : k ≠ 0 := by
  unfold wsM at h
  cases h1 : textP m.ws s with
  | error k' => rw [h1] at h; injection h with h; subst h; exact textP_err h1
  | ok l => rw [h1] at h; cases h
theorem peM_err {m : MgV} {s : List UInt8} {k : Int} (h : peM m s = .error k) : k ≠ 0 := by
  unfold peM at h
  split at h
  · cases h; decide
  · split at h
    · cases h; decide
    · split at h
      · cases h; decide
      · cases h
theorem soM_err {m : MgV} {s : List UInt8} {k : Int} (h : soM m s = .error k) : k ≠ 0 := by
  unfold soM at h
  split at h
  · cases h; decide
  · split at h
    · cases h; decide
    · split at h
      · cases h; decide
      · cases h
theorem partM_err {m : MgV} {K V : List UInt8} {k : Int} (h : partM m K V = .error k) : k ≠ 0 := by
  unfold partM at h
  split at h
  · exact topM_err h
  split at h
  · exact nameM_err h
  split at h
  · exact trM_err h
  split at h
  · exact wsM_err h
  split at h
  · exact peM_err h
  split at h
  · exact soM_err h
  · cases h
theorem pieceM_err {m : MgV} {p : List UInt8} {k : Int} (h : pieceM m p = .error k) : k ≠ 0 := by
  unfold pieceM at h
  split at h
  · exact partM_err h
  · cases h; decide
theorem rlong_app {a b : ByteArray} (h : a.size + b.size ≤ 1000000) (w : World) : (Op.stringOp .add a b).run Tryz.prog w = .ok (.string (a ++ b)) w := run_string_add_sum (w := w) _ _ (by omega)
set_option maxRecDepth 100000 in
set_option maxHeartbeats 8000000 in
theorem rMParse_any (s : ByteArray) (w : World) (hs : s.size ≤ maxLen) :
    Calls Tryz.prog 9 #[.string s] w fun e w' => magQ w.heap.size (magP s.data.toList) e w' ∧ New w w' := by
  unfold maxLen at hs
  have hlen : s.data.toList.length = s.size := by rw [Array.length_toList]; rfl
  obtain ⟨X, hX⟩ : ∃ X, X = magP s.data.toList := ⟨_, rfl⟩
  rw [← hX]
  have HXX := hid hX
  clear hX
  have BMx : Blk (w.alloc (.cells zeroMg 27)) w.heap.size zeroMg 27 := Blk.new _ _ _
  have NMx : New w (w.alloc (.cells zeroMg 27)) := (Mod.refl _ w).alloc _
  have BM0 := hid BMx; have NM0 := hid NMx
  clear BMx NMx
  by_cases hbig : 65536 < s.size
  · have hI : (65536 : Int) < (s.size : Int) := by omega
    have HX : Hid (X = .error 3) := hid (by rw [HXX.out]; unfold magP; rw [if_pos (by omega)])
    clear hlen hbig
    go_enter Tryz.func9, Tryz.ntmps9
    have m0 := BM0.out.cellv 0 rfl; have m1 := BM0.out.cellv 1 rfl; have m2 := BM0.out.cellv 2 rfl; have m3 := BM0.out.cellv 3 rfl
    have m4 := BM0.out.cellv 4 rfl; have m5 := BM0.out.cellv 5 rfl; have m6 := BM0.out.cellv 6 rfl
    have ml := BM0.out.lt
    have mf := BM0.out.frz
    go_wp2
    refine bodyPost_ret (v := .tuple #[mag0V, .int .i64 3]) ?_ rfl ⟨by rw [HX.out]; rfl, ?_⟩
    · refine rmp_results _ _ w.heap.size _ _ _ _ _ _ _ _ ?_ rfl rfl
      apply Blk.row
      · repeat (first | with_reducible exact BM0.out | (with_reducible apply Blk.newAt; (simp; done)) | with_reducible apply Blk.alloc | with_reducible apply Blk.drew | with_reducible apply Blk.drewN | with_reducible apply Blk.set | (with_reducible apply Blk.other; · first | (simp; done) | (simp; omega) | omega) | (with_reducible apply Blk.putObj; · first | (simp; done) | (simp; omega) | omega))
      · rfl
    · have q := NM0.out
      repeat (first | with_reducible exact q | with_reducible refine Mod.alloc ?_ _ | with_reducible refine Mod.drew ?_ | with_reducible refine Mod.drewN ?_ _ | (with_reducible refine Mod.set ?_ _ _ (by first | exact .inl rfl | (right; omega) | (right; simp; done) | (right; simp; omega) | (left; omega) | (left; simp; done) | (left; simp; omega))) | (with_reducible refine Mod.putObj ?_ _ _ (by first | exact .inl rfl | (right; omega) | (right; simp; done) | (right; simp; omega) | (left; omega) | (left; simp; done) | (left; simp; omega))))
      all_goals exact Mod.refl _ _
  · have hI : ¬ (65536 : Int) < (s.size : Int) := by omega
    have HBG := hid (fun W => begins_any s ⟨#[109, 97, 103, 110, 101, 116, 58, 63]⟩ W (by omega) (by decide))
    cases hp : kHead.isPrefixOf s.data.toList with
    | false =>
      have HX : Hid (X = .error 2) := hid (by rw [HXX.out]; unfold magP; rw [if_neg (by omega), hp, if_neg (by decide)])
      have hU : isU ⟨#[109, 97, 103, 110, 101, 116, 58, 63]⟩ s = false := hp
      rw [hU] at HBG
      obtain ⟨R0, hR0⟩ : ∃ R, R = begR s ⟨#[109, 97, 103, 110, 101, 116, 58, 63]⟩ := ⟨_, rfl⟩
      rw [← hR0] at HBG
      clear hR0 hU hp hlen hbig
      go_enter Tryz.func9, Tryz.ntmps9
      go_wp2_with fail
      refine (HBG.out _).mono ?_
      rintro e w2 ⟨rfl, rfl⟩
      have m0 := BM0.out.cellv 0 rfl; have m1 := BM0.out.cellv 1 rfl; have m2 := BM0.out.cellv 2 rfl; have m3 := BM0.out.cellv 3 rfl
      have m4 := BM0.out.cellv 4 rfl; have m5 := BM0.out.cellv 5 rfl; have m6 := BM0.out.cellv 6 rfl
      have ml := BM0.out.lt
      have mf := BM0.out.frz
      go_wp2
      refine bodyPost_ret (v := .tuple #[mag0V, .int .i64 2]) ?_ rfl ⟨by rw [HX.out]; rfl, ?_⟩
      · refine rmp_results _ _ w.heap.size _ _ _ _ _ _ _ _ ?_ rfl rfl
        apply Blk.row
        · repeat (first | with_reducible exact BM0.out | (with_reducible apply Blk.newAt; (simp; done)) | with_reducible apply Blk.alloc | with_reducible apply Blk.drew | with_reducible apply Blk.drewN | with_reducible apply Blk.set | (with_reducible apply Blk.other; · first | (simp; done) | (simp; omega) | omega) | (with_reducible apply Blk.putObj; · first | (simp; done) | (simp; omega) | omega))
        · rfl
      · have q := NM0.out
        repeat (first | with_reducible exact q | with_reducible refine Mod.alloc ?_ _ | with_reducible refine Mod.drew ?_ | with_reducible refine Mod.drewN ?_ _ | (with_reducible refine Mod.set ?_ _ _ (by first | exact .inl rfl | (right; omega) | (right; simp; done) | (right; simp; omega) | (left; omega) | (left; simp; done) | (left; simp; omega))) | (with_reducible refine Mod.putObj ?_ _ _ (by first | exact .inl rfl | (right; omega) | (right; simp; done) | (right; simp; omega) | (left; omega) | (left; simp; done) | (left; simp; omega))))
        all_goals exact Mod.refl _ _
    | true =>
      have hU : isU ⟨#[109, 97, 103, 110, 101, 116, 58, 63]⟩ s = true := hp
      have hbe : begR s ⟨#[109, 97, 103, 110, 101, 116, 58, 63]⟩ = mkB (s.data.toList.drop 8) := by
        unfold begR
        rw [if_pos hU]
        unfold digU Lib.trimPrefix
        have hU2 : Lib.hasPrefix s.data.toList (⟨#[109, 97, 103, 110, 101, 116, 58, 63]⟩ : ByteArray).data.toList = true := hU
        rw [if_pos hU2]
        rfl
      rw [hU, hbe] at HBG
      have HXR := hid (show X = restM (s.data.toList.drop 8) by rw [HXX.out]; unfold magP; rw [if_neg (by omega), hp, if_pos rfl])
      obtain ⟨ρ, hρ⟩ : ∃ ρ, ρ = s.data.toList.drop 8 := ⟨_, rfl⟩
      have hρl : ρ.length ≤ 65528 := by
        have h8 := (List.isPrefixOf_iff_prefix.1 hp).length_le
        have h9 : kHead.length = 8 := rfl
        rw [hρ, List.length_drop]
        omega
      rw [← hρ] at HXR HBG
      have HSP := hid (fun W => rCutS_any (mkB ρ) 38 W (by rw [mkB_size]; omega))
      rw [show (mkB ρ).data.toList = ρ from rfl, show ((38 : UInt8).toNat : Int) = 38 from rfl] at HSP
      have BRx : Blk ((w.alloc (.cells zeroMg 27)).alloc (.cells (rdRow (rdZero mg0)) 59)) (w.heap.size + 1) (rdRow (rdZero mg0)) 59 := Blk.newAt (by simp)
      have BR0 := hid BRx
      have BM1 := hid (BM0.out.alloc (.cells (rdRow (rdZero mg0)) 59))
      have NM1 := hid (NM0.out.alloc (.cells (rdRow (rdZero mg0)) 59))
      clear BRx hU hbe hρ hp hlen hbig
      by_cases h0 : ρ = []
      · have HX : Hid (X = .error 8) := hid (by rw [HXR.out, h0]; rfl)
        have hte : ((mkB ρ).toList == []) = true := by rw [beq_iff_eq, ByteArray.toList_eq]; exact h0
        have htI : (mkB ρ).toList.isEmpty = true := by rw [ByteArray.toList_eq, show (mkB ρ).data.toList = ρ from rfl, h0]; rfl
        have d0 : ((w.alloc (.cells zeroMg 27)).alloc (.cells (rdRow (rdZero mg0)) 59)).cell? ⟨w.heap.size + 1, 0, none⟩ = some (.string ⟨#[]⟩) := BR0.out.cellv 0 rfl
        have d1 : ((w.alloc (.cells zeroMg 27)).alloc (.cells (rdRow (rdZero mg0)) 59)).cell? ⟨w.heap.size + 1, 1, none⟩ = some (.string ⟨#[]⟩) := BR0.out.cellv 1 rfl
        have hadd : ∀ w, (Op.stringOp .add (⟨#[]⟩ : ByteArray) ⟨#[]⟩).run Tryz.prog w = .ok (.string ⟨#[]⟩) w := fun w => run_string_add_sum (w := w) _ _ (by decide +kernel)
        clear h0
        go_enter Tryz.func9, Tryz.ntmps9
        go_wp2_with fail
        refine (HBG.out _).mono ?_
        rintro e w2 ⟨rfl, rfl⟩
        go_wp2_with fail
        refine wp_region_held_drew (S := (fun w' => w'.cell? ⟨w.heap.size + 1, 0, none⟩ = some (.string ⟨#[]⟩) ∧ w'.cell? ⟨w.heap.size + 1, 1, none⟩ = some (.string ⟨#[]⟩))) (by kernel_rfl) ⟨d0, d1⟩ (fun hHeld => ?_)
        refine tk (v := ?_) 0 ?_ ?_
        rotate_left
        · intro w hSw
          (try dsimp only at hSw)
          first | (go_simp; done) | (go_simp; with_reducible rfl) | with_reducible rfl
        simp only [Act.put, List.setIfInBounds_toArray, List.set_cons_zero, List.set_cons_succ]
        refine tk (v := ?_) 1 ?_ ?_
        rotate_left
        · intro w hSw
          (try dsimp only at hSw)
          first | (go_simp; done) | (go_simp; with_reducible rfl) | with_reducible rfl
        simp only [Act.put, List.setIfInBounds_toArray, List.set_cons_zero, List.set_cons_succ]
        refine tk (v := ?_) 2 ?_ ?_
        rotate_left
        · intro w hSw
          (try dsimp only at hSw)
          first | (go_simp; done) | (go_simp; with_reducible rfl) | with_reducible rfl
        simp only [Act.put, List.setIfInBounds_toArray, List.set_cons_zero, List.set_cons_succ]
        refine tk (v := ?_) 3 ?_ ?_
        rotate_left
        · intro w hSw
          (try dsimp only at hSw)
          first | (go_simp; done) | (go_simp; with_reducible rfl) | with_reducible rfl
        simp only [Act.put, List.setIfInBounds_toArray, List.set_cons_zero, List.set_cons_succ]
        refine tk (v := ?_) 4 ?_ ?_
        rotate_left
        · intro w hSw
          (try dsimp only at hSw)
          first | (go_simp; done) | (go_simp; with_reducible rfl) | with_reducible rfl
        simp only [Act.put, List.setIfInBounds_toArray, List.set_cons_zero, List.set_cons_succ]
        refine tk (v := ?_) 5 ?_ ?_
        rotate_left
        · intro w hSw
          (try dsimp only at hSw)
          first | (go_simp; done) | (go_simp; with_reducible rfl) | with_reducible rfl
        simp only [Act.put, List.setIfInBounds_toArray, List.set_cons_zero, List.set_cons_succ]
        refine tk (v := ?_) 6 ?_ ?_
        rotate_left
        · intro w hSw
          (try dsimp only at hSw)
          first | (go_simp; done) | (go_simp; with_reducible rfl) | with_reducible rfl
        simp only [Act.put, List.setIfInBounds_toArray, List.set_cons_zero, List.set_cons_succ]
        refine tk (v := ?_) 7 ?_ ?_
        rotate_left
        · intro w hSw
          (try dsimp only at hSw)
          first | (go_simp; done) | (go_simp; with_reducible rfl) | with_reducible rfl
        simp only [Act.put, List.setIfInBounds_toArray, List.set_cons_zero, List.set_cons_succ]
        refine tk (v := ?_) 8 ?_ ?_
        rotate_left
        · intro w hSw
          (try dsimp only at hSw)
          first | (go_simp; done) | (go_simp; with_reducible rfl) | with_reducible rfl
        simp only [Act.put, List.setIfInBounds_toArray, List.set_cons_zero, List.set_cons_succ]
        refine tk (v := ?_) 9 ?_ ?_
        rotate_left
        · intro w hSw
          (try dsimp only at hSw)
          first | (go_simp; done) | (go_simp; with_reducible rfl) | with_reducible rfl
        simp only [Act.put, List.setIfInBounds_toArray, List.set_cons_zero, List.set_cons_succ]
        refine tk (v := ?_) 10 ?_ ?_
        rotate_left
        · intro w hSw
          (try dsimp only at hSw)
          first | (go_simp; done) | (go_simp; with_reducible rfl) | with_reducible rfl
        simp only [Act.put, List.setIfInBounds_toArray, List.set_cons_zero, List.set_cons_succ]
        refine tk (v := ?_) 11 ?_ ?_
        rotate_left
        · intro w hSw
          (try dsimp only at hSw)
          first | (go_simp; done) | (go_simp; with_reducible rfl) | with_reducible rfl
        simp only [Act.put, List.setIfInBounds_toArray, List.set_cons_zero, List.set_cons_succ]
        refine wpAnyH_done (by kernel_rfl) ?_ _
        have m0 := BM1.out.cellv 0 rfl; have m1 := BM1.out.cellv 1 rfl; have m2 := BM1.out.cellv 2 rfl; have m3 := BM1.out.cellv 3 rfl
        have m4 := BM1.out.cellv 4 rfl; have m5 := BM1.out.cellv 5 rfl; have m6 := BM1.out.cellv 6 rfl
        have ml := BM1.out.lt
        have mf := BM1.out.frz
        go_wp2
        refine bodyPost_ret (v := .tuple #[mag0V, .int .i64 8]) ?_ rfl ⟨by rw [HX.out]; rfl, ?_⟩
        · refine rmp_results _ _ w.heap.size _ _ _ _ _ _ _ _ ?_ rfl rfl
          apply Blk.row
          · repeat (first | with_reducible exact BM1.out | (with_reducible apply Blk.newAt; (simp; done)) | with_reducible apply Blk.alloc | with_reducible apply Blk.drew | with_reducible apply Blk.drewN | with_reducible apply Blk.set | (with_reducible apply Blk.other; · first | (simp; done) | (simp; omega) | omega) | (with_reducible apply Blk.putObj; · first | (simp; done) | (simp; omega) | omega))
          · rfl
        · have q := NM1.out
          repeat (first | with_reducible exact q | with_reducible refine Mod.alloc ?_ _ | with_reducible refine Mod.drew ?_ | with_reducible refine Mod.drewN ?_ _ | (with_reducible refine Mod.set ?_ _ _ (by first | exact .inl rfl | (right; omega) | (right; simp; done) | (right; simp; omega) | (left; omega) | (left; simp; done) | (left; simp; omega))) | (with_reducible refine Mod.putObj ?_ _ _ (by first | exact .inl rfl | (right; omega) | (right; simp; done) | (right; simp; omega) | (left; omega) | (left; simp; done) | (left; simp; omega))))
          all_goals exact Mod.refl _ _
      · have HHC := hid (fun k (h : k < (pieces [] 38 ρ).length) => lst_all h)
        have HRM := hid (show restM ρ = (match foldM mg0 (pieces [] 38 ρ) with | .error k => .error k | .ok m => endM m) by unfold restM; rw [if_neg h0]; cases foldM mg0 (pieces [] 38 ρ) <;> rfl)
        have HPS := hid (fun x hx => piece_le [] (by simp) 38 ρ x hx)
        have hcl := List.count_le_length (l := ρ) (a := 38)
        have hpl := pieces_len [] 38 ρ
        have hte : ((mkB ρ).toList == []) = false := by rw [beq_eq_false_iff_ne, ByteArray.toList_eq]; exact h0
        have htI : (mkB ρ).toList.isEmpty = false := by
          rw [ByteArray.toList_eq, show (mkB ρ).data.toList = ρ from rfl]
          cases ρ with
          | nil => exact absurd rfl h0
          | cons x y => rfl
        obtain ⟨P, hP⟩ : ∃ P, P = pieces [] 38 ρ := ⟨_, rfl⟩
        have hpne : 0 < P.length := by rw [hP]; exact List.length_pos_iff.2 (pieces_ne _ _ _)
        have hPl : P.length ≤ 65537 := by rw [← hP] at hpl; omega
        rw [← hP] at HSP HHC HRM HPS
        have HPSZ : Hid (∀ k (h : k < P.length), P[k].length ≤ 65529) := hid (fun k h => by have := HPS.out _ (List.getElem_mem h); omega)
        clear h0 hP hcl hpl
        go_enter Tryz.func9, Tryz.ntmps9
        go_wp2_with fail
        refine (HBG.out _).mono ?_
        rintro e w2 ⟨rfl, rfl⟩
        go_wp2_with fail
        refine (HSP.out _).mono ?_
        rintro e w2 ⟨a, d, rfl, hst, hab, n2⟩
        have BM2 := hid (New.blk n2 BM1.out)
        have BR2 := hid (New.blk n2 BR0.out)
        have N2 := hid (NM1.out.trans n2)
        have HW2 := hid (show w.heap.size + 1 < w2.heap.size from BR2.out.lt)
        obtain ⟨bb, oo, rfl, hbb, hcc⟩ := hst.get (by rw [List.length_map]; exact hpne)
        have hab := (hab _ rfl).1
        simp at hab
        have HAB := hid hab
        have hmap : (P.map mkB).length = P.length := List.length_map _
        rw [hmap]
        have HCC : Hid (∀ k (h : k < P.length) wr, Mod (fun j => j = w.heap.size + 1 ∨ w2.heap.size ≤ j) w2 wr → wr.cell? ⟨bb, oo + k, none⟩ = some (.string (mkB P[k]))) := hid (fun k h wr m => by
          have h1 := hcc k (by rw [List.length_map]; exact h)
          rw [show (P.map mkB)[k]'(by rw [List.length_map]; exact h) = mkB P[k] from List.getElem_map _] at h1
          exact Mod.cellv m h1 (by simp only; have := HAB.out; have := hbb; omega))
        clear hst hcc n2 hab hmap
        go_wp2_with fail
        go_loopw [30] (fun i wr => ∃ (k : Nat) (m : MgV) (r : RdM), i = .int .i64 k ∧ k ≤ P.length ∧ foldM mg0 (P.take k) = .ok m ∧ RdIs 59 wr (w.heap.size + 1) w2.heap.size m r ∧ Mod (fun j => j = w.heap.size + 1 ∨ w2.heap.size ≤ j) w2 wr) (fun i _ => P.length - (intOf i).toNat)
        case atStart => exact ⟨0, mg0, rdZero mg0, rfl, by omega, by rw [List.take_zero]; rfl, RdIs.zero BR2.out HW2.out, Mod.refl _ _⟩
        case round =>
          obtain ⟨k, m, r, rfl, hk, hfk, hr, hm⟩ := hrel
          have HFK := hid hfk; have HR := hid hr; have HM := hid hm
          have NR : Hid (New w wr) := hid (N2.out.trans' hm (fun j h1 h2 => by have := HW2.out; omega))
          have BMr := hid (hm.blk BM2.out (by have := HW2.out; omega))
          have BRr := hid hr.blk
          clear hfk hr
          by_cases hlt : k < P.length
          · have hltI : (k : Int) < (P.length : Int) := by omega
            have g0 := HCC.out k hlt wr hm
            have hps := HPSZ.out k hlt
            have HBAD : Hid (∀ ke, pieceM m P[k] = .error ke → X = .error ke) := hid (fun ke q => by
              rw [HXR.out, HRM.out, HHC.out k hlt, foldM_bad HFK.out q])
            have HNEXT : Hid (∀ m', pieceM m P[k] = .ok m' → foldM mg0 (P.take (k + 1)) = .ok m') := hid (fun m' q => by
              rw [lst_next hlt]
              exact foldM_next HFK.out q)
            obtain ⟨p, hpe⟩ : ∃ p, p = mkB P[k] := ⟨_, rfl⟩
            have hpd : P[k] = p.data.toList := by rw [hpe]; rfl
            rw [← hpe] at g0
            rw [hpd] at HBAD HNEXT hps
            have hps : p.size ≤ 65529 := by rw [Array.length_toList] at hps; exact hps
            have HPC0 := hid (show pieceM m p.data.toList = if (cutB 61 p.data.toList).2.2 = true then partM m (cutB 61 p.data.toList).1 (cutB 61 p.data.toList).2.1 else .error 2 from rfl)
            clear hpe hpd hm
            go_wp2_with fail
            go_loop [9] (fun n => ∃ j : Nat, n = .int .i64 j ∧ j ≤ p.size ∧ ∀ i (h : i < p.size), i < j → p[i] ≠ 61) (fun n => p.size - (intOf n).toNat)
            case atStart => exact ⟨0, rfl, by omega, by intros; omega⟩
            case round =>
              obtain ⟨j, rfl, hj, hall⟩ := hrel
              have HALL := hid hall
              clear hall
              by_cases hjl : j < p.size
              · have hjI : (j : Int) < (p.size : Int) := by omega
                have hj1 : IntKind.i64.wrap ((j : Int) + 1) = (j : Int) + 1 := by rw [IntKind.wrap_i64]; omega
                by_cases c1 : p[j] = 61
                · have e1 : ((p[j].toNat : Int) == 61) = true := by rw [c1]; rfl
                  have hne : ((j : Int) == (p.size : Int)) = false := by rw [beq_eq_false_iff_ne]; omega
                  have HCU := hid (cutB_hit hjl (fun i hi => HALL.out i (by omega) hi) c1)
                  rw [HCU.out] at HPC0
                  have HPC := hid (HPC0.out.trans (if_pos rfl))
                  have hjle : (j : Int) ≤ (p.size : Int) := by omega
                  have hjle1 : (j : Int) + 1 ≤ (p.size : Int) := by omega
                  have na : ((j : Int) + 1).toNat = j + 1 := by omega
                  have pa : (0 : Int) ≤ (j : Int) + 1 := by omega
                  have HOK := hid (foldM_ok HFK.out MgOk.zero)
                  obtain ⟨Y, hY⟩ : ∃ Y, Y = partM m (p.extract 0 j).data.toList (p.extract (j + 1) p.size).data.toList := ⟨_, rfl⟩
                  have HPT : Hid (∀ W, New wr W → Calls Tryz.prog 29 #[.pointer (some ⟨w.heap.size + 1, 0, none⟩), .string (p.extract 0 j), .string (p.extract (j + 1) p.size)] W fun e w' => PartR (w.heap.size + 1) w2.heap.size W Y e w') := hid (fun W n => by
                    rw [hY]
                    exact rpart_any (w.heap.size + 1) w2.heap.size m r _ _ W (HR.out.next n) (by rw [ByteArray.size_extract]; omega) (Nat.le_trans HM.out.size n.size) HOK.out)
                  have HPY := hid (show pieceM m p.data.toList = Y by rw [HPC.out, hY])
                  clear hY c1
                  cases hYc : Y with
                  | error ke =>
                    have HYC := hid hYc
                    have HX := hid (HBAD.out ke (HPY.out.trans hYc))
                    have hke : (ke == 0) = false := by
                      rw [beq_eq_false_iff_ne]
                      exact pieceM_err (HPY.out.trans hYc)
                    rw [hYc] at HPT
                    clear hYc
                    go_wp2_with fail
                    refine wp_region_held_drew (S := (fun w' => True)) (by kernel_rfl) trivial (fun hHeld => ?_)
                    refine tk (v := ?_) 0 ?_ ?_
                    rotate_left
                    · intro w hSw
                      (try dsimp only at hSw)
                      first | (go_simp; done) | (go_simp; with_reducible rfl) | with_reducible rfl
                    simp only [Act.put, List.setIfInBounds_toArray, List.set_cons_zero, List.set_cons_succ]
                    refine tk (v := ?_) 1 ?_ ?_
                    rotate_left
                    · intro w hSw
                      (try dsimp only at hSw)
                      first | (go_simp; done) | (go_simp; with_reducible rfl) | with_reducible rfl
                    simp only [Act.put, List.setIfInBounds_toArray, List.set_cons_zero, List.set_cons_succ]
                    refine tk (v := ?_) 2 ?_ ?_
                    rotate_left
                    · intro w hSw
                      (try dsimp only at hSw)
                      first | (go_simp; done) | (go_simp; with_reducible rfl) | with_reducible rfl
                    simp only [Act.put, List.setIfInBounds_toArray, List.set_cons_zero, List.set_cons_succ]
                    refine tk (v := ?_) 3 ?_ ?_
                    rotate_left
                    · intro w hSw
                      (try dsimp only at hSw)
                      first | (go_simp; done) | (go_simp; with_reducible rfl) | with_reducible rfl
                    simp only [Act.put, List.setIfInBounds_toArray, List.set_cons_zero, List.set_cons_succ]
                    refine tk (v := ?_) 4 ?_ ?_
                    rotate_left
                    · intro w hSw
                      (try dsimp only at hSw)
                      first | (go_simp; done) | (go_simp; with_reducible rfl) | with_reducible rfl
                    simp only [Act.put, List.setIfInBounds_toArray, List.set_cons_zero, List.set_cons_succ]
                    refine tk (v := ?_) 5 ?_ ?_
                    rotate_left
                    · intro w hSw
                      (try dsimp only at hSw)
                      first | (go_simp; done) | (go_simp; with_reducible rfl) | with_reducible rfl
                    simp only [Act.put, List.setIfInBounds_toArray, List.set_cons_zero, List.set_cons_succ]
                    refine tk (v := ?_) 6 ?_ ?_
                    rotate_left
                    · intro w hSw
                      (try dsimp only at hSw)
                      first | (go_simp; done) | (go_simp; with_reducible rfl) | with_reducible rfl
                    simp only [Act.put, List.setIfInBounds_toArray, List.set_cons_zero, List.set_cons_succ]
                    refine tk (v := ?_) 7 ?_ ?_
                    rotate_left
                    · intro w hSw
                      (try dsimp only at hSw)
                      first | (go_simp; done) | (go_simp; with_reducible rfl) | with_reducible rfl
                    simp only [Act.put, List.setIfInBounds_toArray, List.set_cons_zero, List.set_cons_succ]
                    refine wpAnyH_ready (rs := [8]) (by kernel_rfl) (by simp) ?_
                    refine AllReadyH.cons (by simp only [List.getElem?_toArray, List.getElem?_cons_succ, List.getElem?_cons_zero]; rfl) (fun K hK => ?_) AllReadyH.nil
                    go_simp
                    (go_at_call 29; refine (HPT.out _ (Mod.refl _ _).drew).mono ?_; rintro e w6 ⟨rfl, hok6, hm6⟩)
                    try dsimp only
                    refine hK.out _ _ trivial (fun hHeld8 => ?_)
                    clear hK K hHeld8
                    try simp only [Act.put, List.setIfInBounds_toArray, List.set_cons_zero, List.set_cons_succ]
                    have HOK6 := hid hok6
                    have M6 : Hid (Mod (fun j => j = w.heap.size + 1 ∨ w2.heap.size ≤ j) w2 w6) := hid (HM.out.drew.trans hm6)
                    have N6 : Hid (New w w6) := hid (N2.out.trans' M6.out (fun j h1 h2 => by have := HW2.out; omega))
                    have BM6 := hid (M6.out.blk BM2.out (by have := HW2.out; omega))
                    clear hok6 hm6
                    refine tk (v := ?_) 9 ?_ ?_
                    rotate_left
                    · intro w hSw
                      (try dsimp only at hSw)
                      first | (go_simp; done) | (go_simp; with_reducible rfl) | with_reducible rfl
                    simp only [Act.put, List.setIfInBounds_toArray, List.set_cons_zero, List.set_cons_succ]
                    refine wpAnyH_done (by kernel_rfl) ?_ _
                    simp only [codeM]
                    have m0 := BM6.out.cellv 0 rfl; have m1 := BM6.out.cellv 1 rfl; have m2 := BM6.out.cellv 2 rfl; have m3 := BM6.out.cellv 3 rfl
                    have m4 := BM6.out.cellv 4 rfl; have m5 := BM6.out.cellv 5 rfl; have m6 := BM6.out.cellv 6 rfl
                    have ml := BM6.out.lt
                    have mf := BM6.out.frz
                    go_wp2
                    refine bodyPost_ret (v := .tuple #[mag0V, .int .i64 ke]) ?_ rfl ⟨by rw [HX.out]; rfl, ?_⟩
                    · refine rmp_results _ _ w.heap.size _ _ _ _ _ _ _ _ ?_ rfl rfl
                      apply Blk.row
                      · repeat (first | with_reducible exact BM6.out | (with_reducible apply Blk.newAt; (simp; done)) | with_reducible apply Blk.alloc | with_reducible apply Blk.drew | with_reducible apply Blk.drewN | with_reducible apply Blk.set | (with_reducible apply Blk.other; · first | (simp; done) | (simp; omega) | omega) | (with_reducible apply Blk.putObj; · first | (simp; done) | (simp; omega) | omega))
                      · rfl
                    · have q := N6.out
                      repeat (first | with_reducible exact q | with_reducible refine Mod.alloc ?_ _ | with_reducible refine Mod.drew ?_ | with_reducible refine Mod.drewN ?_ _ | (with_reducible refine Mod.set ?_ _ _ (by first | exact .inl rfl | (right; omega) | (right; simp; done) | (right; simp; omega) | (left; omega) | (left; simp; done) | (left; simp; omega))) | (with_reducible refine Mod.putObj ?_ _ _ (by first | exact .inl rfl | (right; omega) | (right; simp; done) | (right; simp; omega) | (left; omega) | (left; simp; done) | (left; simp; omega))))
                      all_goals exact Mod.refl _ _
                  | ok m' =>
                    have HNX := hid (HNEXT.out m' (HPY.out.trans hYc))
                    rw [hYc] at HPT
                    clear hYc
                    go_wp2_with fail
                    refine wp_region_held_drew (S := (fun w' => True)) (by kernel_rfl) trivial (fun hHeld => ?_)
                    refine tk (v := ?_) 0 ?_ ?_
                    rotate_left
                    · intro w hSw
                      (try dsimp only at hSw)
                      first | (go_simp; done) | (go_simp; with_reducible rfl) | with_reducible rfl
                    simp only [Act.put, List.setIfInBounds_toArray, List.set_cons_zero, List.set_cons_succ]
                    refine tk (v := ?_) 1 ?_ ?_
                    rotate_left
                    · intro w hSw
                      (try dsimp only at hSw)
                      first | (go_simp; done) | (go_simp; with_reducible rfl) | with_reducible rfl
                    simp only [Act.put, List.setIfInBounds_toArray, List.set_cons_zero, List.set_cons_succ]
                    refine tk (v := ?_) 2 ?_ ?_
                    rotate_left
                    · intro w hSw
                      (try dsimp only at hSw)
                      first | (go_simp; done) | (go_simp; with_reducible rfl) | with_reducible rfl
                    simp only [Act.put, List.setIfInBounds_toArray, List.set_cons_zero, List.set_cons_succ]
                    refine tk (v := ?_) 3 ?_ ?_
                    rotate_left
                    · intro w hSw
                      (try dsimp only at hSw)
                      first | (go_simp; done) | (go_simp; with_reducible rfl) | with_reducible rfl
                    simp only [Act.put, List.setIfInBounds_toArray, List.set_cons_zero, List.set_cons_succ]
                    refine tk (v := ?_) 4 ?_ ?_
                    rotate_left
                    · intro w hSw
                      (try dsimp only at hSw)
                      first | (go_simp; done) | (go_simp; with_reducible rfl) | with_reducible rfl
                    simp only [Act.put, List.setIfInBounds_toArray, List.set_cons_zero, List.set_cons_succ]
                    refine tk (v := ?_) 5 ?_ ?_
                    rotate_left
                    · intro w hSw
                      (try dsimp only at hSw)
                      first | (go_simp; done) | (go_simp; with_reducible rfl) | with_reducible rfl
                    simp only [Act.put, List.setIfInBounds_toArray, List.set_cons_zero, List.set_cons_succ]
                    refine tk (v := ?_) 6 ?_ ?_
                    rotate_left
                    · intro w hSw
                      (try dsimp only at hSw)
                      first | (go_simp; done) | (go_simp; with_reducible rfl) | with_reducible rfl
                    simp only [Act.put, List.setIfInBounds_toArray, List.set_cons_zero, List.set_cons_succ]
                    refine tk (v := ?_) 7 ?_ ?_
                    rotate_left
                    · intro w hSw
                      (try dsimp only at hSw)
                      first | (go_simp; done) | (go_simp; with_reducible rfl) | with_reducible rfl
                    simp only [Act.put, List.setIfInBounds_toArray, List.set_cons_zero, List.set_cons_succ]
                    refine wpAnyH_ready (rs := [8]) (by kernel_rfl) (by simp) ?_
                    refine AllReadyH.cons (by simp only [List.getElem?_toArray, List.getElem?_cons_succ, List.getElem?_cons_zero]; rfl) (fun K hK => ?_) AllReadyH.nil
                    go_simp
                    (go_at_call 29; refine (HPT.out _ (Mod.refl _ _).drew).mono ?_; rintro e w6 ⟨rfl, hok6, hm6⟩)
                    try dsimp only
                    refine hK.out _ _ trivial (fun hHeld8 => ?_)
                    clear hK K hHeld8
                    try simp only [Act.put, List.setIfInBounds_toArray, List.set_cons_zero, List.set_cons_succ]
                    have HOK6 := hid hok6
                    have M6 : Hid (Mod (fun j => j = w.heap.size + 1 ∨ w2.heap.size ≤ j) w2 w6) := hid (HM.out.drew.trans hm6)
                    have N6 : Hid (New w w6) := hid (N2.out.trans' M6.out (fun j h1 h2 => by have := HW2.out; omega))
                    have BM6 := hid (M6.out.blk BM2.out (by have := HW2.out; omega))
                    clear hok6 hm6
                    refine tk (v := ?_) 9 ?_ ?_
                    rotate_left
                    · intro w hSw
                      (try dsimp only at hSw)
                      first | (go_simp; done) | (go_simp; with_reducible rfl) | with_reducible rfl
                    simp only [Act.put, List.setIfInBounds_toArray, List.set_cons_zero, List.set_cons_succ]
                    refine wpAnyH_done (by kernel_rfl) ?_ _
                    obtain ⟨r', hr'⟩ := HOK6.out m' rfl
                    have HR6 := hid hr'
                    clear hr'
                    simp only [codeM]
                    go_wp2
                    exact ⟨⟨k + 1, m', r', by simp, by omega, HNX.out, HR6.out, M6.out⟩, by simp [intOf]; omega⟩
                · have e1 : ((p[j].toNat : Int) == 61) = false := by
                    rw [beq_eq_false_iff_ne]
                    exact fun e => c1 (UInt8.toNat_inj.1 (by rw [show (61 : UInt8).toNat = 61 from rfl]; omega))
                  have HNE := hid c1
                  clear c1
                  go_wp2_with fail
                  exact ⟨⟨j + 1, by simp, by omega, fun i h hi => by rcases Nat.lt_succ_iff_lt_or_eq.1 hi with q | q; exact HALL.out i h q; subst q; exact HNE.out⟩, by simp [intOf]; omega⟩
              · have hjI : ¬ (j : Int) < (p.size : Int) := by omega
                obtain rfl : j = p.size := by omega
                have hne : ((p.size : Int) == (p.size : Int)) = true := by rw [beq_iff_eq]
                have HX := hid (HBAD.out 2 (HPC0.out.trans (if_neg (by rw [cutB_miss (fun i hi => HALL.out i hi hi)]; decide))))
                clear hjl
                have m0 := BMr.out.cellv 0 rfl; have m1 := BMr.out.cellv 1 rfl; have m2 := BMr.out.cellv 2 rfl; have m3 := BMr.out.cellv 3 rfl
                have m4 := BMr.out.cellv 4 rfl; have m5 := BMr.out.cellv 5 rfl; have m6 := BMr.out.cellv 6 rfl
                have ml := BMr.out.lt
                have mf := BMr.out.frz
                go_wp2
                refine bodyPost_ret (v := .tuple #[mag0V, .int .i64 2]) ?_ rfl ⟨by rw [HX.out]; rfl, ?_⟩
                · refine rmp_results _ _ w.heap.size _ _ _ _ _ _ _ _ ?_ rfl rfl
                  apply Blk.row
                  · repeat (first | with_reducible exact BMr.out | (with_reducible apply Blk.newAt; (simp; done)) | with_reducible apply Blk.alloc | with_reducible apply Blk.drew | with_reducible apply Blk.drewN | with_reducible apply Blk.set | (with_reducible apply Blk.other; · first | (simp; done) | (simp; omega) | omega) | (with_reducible apply Blk.putObj; · first | (simp; done) | (simp; omega) | omega))
                  · rfl
                · have q := NR.out
                  repeat (first | with_reducible exact q | with_reducible refine Mod.alloc ?_ _ | with_reducible refine Mod.drew ?_ | with_reducible refine Mod.drewN ?_ _ | (with_reducible refine Mod.set ?_ _ _ (by first | exact .inl rfl | (right; omega) | (right; simp; done) | (right; simp; omega) | (left; omega) | (left; simp; done) | (left; simp; omega))) | (with_reducible refine Mod.putObj ?_ _ _ (by first | exact .inl rfl | (right; omega) | (right; simp; done) | (right; simp; omega) | (left; omega) | (left; simp; done) | (left; simp; omega))))
                  all_goals exact Mod.refl _ _
          · have hkk : k = P.length := by omega
            have HXE := hid (show X = endM m by rw [HXR.out, HRM.out, show P = P.take k by rw [hkk, List.take_length], HFK.out])
            have hltI : ¬ (k : Int) < (P.length : Int) := by omega
            clear hm hkk
            have HOK := hid (foldM_ok HFK.out MgOk.zero)
            have hos := HOK.out.old; have hns := HOK.out.new
            have d0 : wr.cell? ⟨w.heap.size + 1, 0, none⟩ = some (.string m.old) := by rw [← HR.out.old]; exact HR.out.blk.cellv 0 rfl
            have d1 : wr.cell? ⟨w.heap.size + 1, 1, none⟩ = some (.string m.new) := by rw [← HR.out.new]; exact HR.out.blk.cellv 1 rfl
            have hadd : ∀ w, (Op.stringOp .add m.old m.new).run Tryz.prog w = .ok (.string (m.old ++ m.new)) w := fun w => rlong_app (by omega) w
            obtain ⟨OM, hOM⟩ : ∃ OM, OM = m.old ++ m.new := ⟨_, rfl⟩
            have HOM := hid (show OM.data.toList = m.old.data.toList ++ m.new.data.toList by rw [hOM, ByteArray.data_append, Array.toList_append])
            rw [← hOM] at hadd
            clear hOM hos hns
            by_cases hem : m.old.data.toList = [] ∧ m.new.data.toList = []
            · have HX : Hid (X = .error 8) := hid (by rw [HXE.out]; unfold endM; rw [if_pos hem])
              have hnl : OM.data.toList = [] := by rw [HOM.out, hem.1, hem.2]; rfl
              have hqe : (OM.toList == []) = true := by rw [beq_iff_eq, ByteArray.toList_eq]; exact hnl
              have hqI : OM.toList.isEmpty = true := by rw [ByteArray.toList_eq, hnl]; rfl
              clear hem hnl
              go_wp2_with fail
              refine wp_region_held_drew (S := (fun w' => w'.cell? ⟨w.heap.size + 1, 0, none⟩ = some (.string m.old) ∧ w'.cell? ⟨w.heap.size + 1, 1, none⟩ = some (.string m.new))) (by kernel_rfl) ⟨d0, d1⟩ (fun hHeld => ?_)
              refine tk (v := ?_) 0 ?_ ?_
              rotate_left
              · intro w hSw
                (try dsimp only at hSw)
                first | (go_simp; done) | (go_simp; with_reducible rfl) | with_reducible rfl
              simp only [Act.put, List.setIfInBounds_toArray, List.set_cons_zero, List.set_cons_succ]
              refine tk (v := ?_) 1 ?_ ?_
              rotate_left
              · intro w hSw
                (try dsimp only at hSw)
                first | (go_simp; done) | (go_simp; with_reducible rfl) | with_reducible rfl
              simp only [Act.put, List.setIfInBounds_toArray, List.set_cons_zero, List.set_cons_succ]
              refine tk (v := ?_) 2 ?_ ?_
              rotate_left
              · intro w hSw
                (try dsimp only at hSw)
                first | (go_simp; done) | (go_simp; with_reducible rfl) | with_reducible rfl
              simp only [Act.put, List.setIfInBounds_toArray, List.set_cons_zero, List.set_cons_succ]
              refine tk (v := ?_) 3 ?_ ?_
              rotate_left
              · intro w hSw
                (try dsimp only at hSw)
                first | (go_simp; done) | (go_simp; with_reducible rfl) | with_reducible rfl
              simp only [Act.put, List.setIfInBounds_toArray, List.set_cons_zero, List.set_cons_succ]
              refine tk (v := ?_) 4 ?_ ?_
              rotate_left
              · intro w hSw
                (try dsimp only at hSw)
                first | (go_simp; done) | (go_simp; with_reducible rfl) | with_reducible rfl
              simp only [Act.put, List.setIfInBounds_toArray, List.set_cons_zero, List.set_cons_succ]
              refine tk (v := ?_) 5 ?_ ?_
              rotate_left
              · intro w hSw
                (try dsimp only at hSw)
                first | (go_simp; done) | (go_simp; with_reducible rfl) | with_reducible rfl
              simp only [Act.put, List.setIfInBounds_toArray, List.set_cons_zero, List.set_cons_succ]
              refine tk (v := ?_) 6 ?_ ?_
              rotate_left
              · intro w hSw
                (try dsimp only at hSw)
                first | (go_simp; done) | (go_simp; with_reducible rfl) | with_reducible rfl
              simp only [Act.put, List.setIfInBounds_toArray, List.set_cons_zero, List.set_cons_succ]
              refine tk (v := ?_) 7 ?_ ?_
              rotate_left
              · intro w hSw
                (try dsimp only at hSw)
                first | (go_simp; done) | (go_simp; with_reducible rfl) | with_reducible rfl
              simp only [Act.put, List.setIfInBounds_toArray, List.set_cons_zero, List.set_cons_succ]
              refine tk (v := ?_) 8 ?_ ?_
              rotate_left
              · intro w hSw
                (try dsimp only at hSw)
                first | (go_simp; done) | (go_simp; with_reducible rfl) | with_reducible rfl
              simp only [Act.put, List.setIfInBounds_toArray, List.set_cons_zero, List.set_cons_succ]
              refine tk (v := ?_) 9 ?_ ?_
              rotate_left
              · intro w hSw
                (try dsimp only at hSw)
                first | (go_simp; done) | (go_simp; with_reducible rfl) | with_reducible rfl
              simp only [Act.put, List.setIfInBounds_toArray, List.set_cons_zero, List.set_cons_succ]
              refine tk (v := ?_) 10 ?_ ?_
              rotate_left
              · intro w hSw
                (try dsimp only at hSw)
                first | (go_simp; done) | (go_simp; with_reducible rfl) | with_reducible rfl
              simp only [Act.put, List.setIfInBounds_toArray, List.set_cons_zero, List.set_cons_succ]
              refine tk (v := ?_) 11 ?_ ?_
              rotate_left
              · intro w hSw
                (try dsimp only at hSw)
                first | (go_simp; done) | (go_simp; with_reducible rfl) | with_reducible rfl
              simp only [Act.put, List.setIfInBounds_toArray, List.set_cons_zero, List.set_cons_succ]
              refine wpAnyH_done (by kernel_rfl) ?_ _
              have m0 := BMr.out.cellv 0 rfl; have m1 := BMr.out.cellv 1 rfl; have m2 := BMr.out.cellv 2 rfl; have m3 := BMr.out.cellv 3 rfl
              have m4 := BMr.out.cellv 4 rfl; have m5 := BMr.out.cellv 5 rfl; have m6 := BMr.out.cellv 6 rfl
              have ml := BMr.out.lt
              have mf := BMr.out.frz
              go_wp2
              refine bodyPost_ret (v := .tuple #[mag0V, .int .i64 8]) ?_ rfl ⟨by rw [HX.out]; rfl, ?_⟩
              · refine rmp_results _ _ w.heap.size _ _ _ _ _ _ _ _ ?_ rfl rfl
                apply Blk.row
                · repeat (first | with_reducible exact BMr.out | (with_reducible apply Blk.newAt; (simp; done)) | with_reducible apply Blk.alloc | with_reducible apply Blk.drew | with_reducible apply Blk.drewN | with_reducible apply Blk.set | (with_reducible apply Blk.other; · first | (simp; done) | (simp; omega) | omega) | (with_reducible apply Blk.putObj; · first | (simp; done) | (simp; omega) | omega))
                · rfl
              · have q := NR.out
                repeat (first | with_reducible exact q | with_reducible refine Mod.alloc ?_ _ | with_reducible refine Mod.drew ?_ | with_reducible refine Mod.drewN ?_ _ | (with_reducible refine Mod.set ?_ _ _ (by first | exact .inl rfl | (right; omega) | (right; simp; done) | (right; simp; omega) | (left; omega) | (left; simp; done) | (left; simp; omega))) | (with_reducible refine Mod.putObj ?_ _ _ (by first | exact .inl rfl | (right; omega) | (right; simp; done) | (right; simp; omega) | (left; omega) | (left; simp; done) | (left; simp; omega))))
                all_goals exact Mod.refl _ _
            · have HX : Hid (X = .ok m) := hid (by rw [HXE.out]; unfold endM; rw [if_neg hem])
              have hnl : OM.data.toList ≠ [] := by
                rw [HOM.out]
                intro q
                exact hem (List.append_eq_nil_iff.1 q)
              have hqe : (OM.toList == []) = false := by rw [beq_eq_false_iff_ne, ByteArray.toList_eq]; exact hnl
              have hqI : OM.toList.isEmpty = false := by
                rw [ByteArray.toList_eq]
                cases hq : OM.data.toList with
                | nil => exact absurd hq hnl
                | cons a b => rfl
              clear hem hnl
              have d2 : wr.cell? ⟨w.heap.size + 1, 2, none⟩ = some (.string m.name) := by rw [← HR.out.name]; exact HR.out.blk.cellv 2 rfl
              obtain ⟨ta, tc, htv⟩ := OwnS.form (l := m.tr) ⟨HR.out.tr, HR.out.trs⟩
              obtain ⟨pa, pc, hpv⟩ := OwnA.form (l := m.pe) ⟨HR.out.pe⟩
              obtain ⟨wa, wc, hwv⟩ := OwnS.form (l := m.ws) ⟨HR.out.ws, HR.out.wss⟩
              obtain ⟨oa, oc, hov, -⟩ := OwnR.form (U := m.on) HR.out.on
              have d3 : wr.cell? ⟨w.heap.size + 1, 3, none⟩ = some (.slice ta m.tr.length tc) := by rw [← htv]; exact HR.out.blk.cellv 3 rfl
              have d4 : wr.cell? ⟨w.heap.size + 1, 4, none⟩ = some (.slice pa m.pe.length pc) := by rw [← hpv]; exact HR.out.blk.cellv 4 rfl
              have d5 : wr.cell? ⟨w.heap.size + 1, 5, none⟩ = some (.slice wa m.ws.length wc) := by rw [← hwv]; exact HR.out.blk.cellv 5 rfl
              have d6 : wr.cell? ⟨w.heap.size + 1, 6, none⟩ = some (.slice oa m.on.length oc) := by rw [← hov]; exact HR.out.blk.cellv 6 rfl
              have QTR := hid (show wr.ownsRow w2.heap.size 9 1 (.slice ta m.tr.length tc) m.tr.length (m.tr.map Value.string) by rw [← htv]; exact HR.out.tr)
              have QPE := hid (show wr.ownsRow w2.heap.size 64 3 (.slice pa m.pe.length pc) m.pe.length (adrRow m.pe) by rw [← hpv]; exact HR.out.pe)
              have QWS := hid (show wr.ownsRow w2.heap.size 9 1 (.slice wa m.ws.length wc) m.ws.length (m.ws.map Value.string) by rw [← hwv]; exact HR.out.ws)
              have QON := hid (show wr.ownsRow w2.heap.size 66 2 (.slice oa m.on.length oc) m.on.length (runRow m.on) by rw [← hov]; exact HR.out.on)
              clear htv hpv hwv hov
              have m0 := BMr.out.cellv 0 rfl; have m1 := BMr.out.cellv 1 rfl; have m2 := BMr.out.cellv 2 rfl; have m3 := BMr.out.cellv 3 rfl
              have m4 := BMr.out.cellv 4 rfl; have m5 := BMr.out.cellv 5 rfl; have m6 := BMr.out.cellv 6 rfl
              have ml := BMr.out.lt
              have mf := BMr.out.frz
              go_wp2_with fail
              refine wp_region_held_drew (S := (fun w' => w'.cell? ⟨w.heap.size + 1, 0, none⟩ = some (.string m.old) ∧ w'.cell? ⟨w.heap.size + 1, 1, none⟩ = some (.string m.new))) (by kernel_rfl) ⟨d0, d1⟩ (fun hHeld => ?_)
              refine tk (v := ?_) 0 ?_ ?_
              rotate_left
              · intro w hSw
                (try dsimp only at hSw)
                first | (go_simp; done) | (go_simp; with_reducible rfl) | with_reducible rfl
              simp only [Act.put, List.setIfInBounds_toArray, List.set_cons_zero, List.set_cons_succ]
              refine tk (v := ?_) 1 ?_ ?_
              rotate_left
              · intro w hSw
                (try dsimp only at hSw)
                first | (go_simp; done) | (go_simp; with_reducible rfl) | with_reducible rfl
              simp only [Act.put, List.setIfInBounds_toArray, List.set_cons_zero, List.set_cons_succ]
              refine tk (v := ?_) 2 ?_ ?_
              rotate_left
              · intro w hSw
                (try dsimp only at hSw)
                first | (go_simp; done) | (go_simp; with_reducible rfl) | with_reducible rfl
              simp only [Act.put, List.setIfInBounds_toArray, List.set_cons_zero, List.set_cons_succ]
              refine tk (v := ?_) 3 ?_ ?_
              rotate_left
              · intro w hSw
                (try dsimp only at hSw)
                first | (go_simp; done) | (go_simp; with_reducible rfl) | with_reducible rfl
              simp only [Act.put, List.setIfInBounds_toArray, List.set_cons_zero, List.set_cons_succ]
              refine tk (v := ?_) 4 ?_ ?_
              rotate_left
              · intro w hSw
                (try dsimp only at hSw)
                first | (go_simp; done) | (go_simp; with_reducible rfl) | with_reducible rfl
              simp only [Act.put, List.setIfInBounds_toArray, List.set_cons_zero, List.set_cons_succ]
              refine tk (v := ?_) 5 ?_ ?_
              rotate_left
              · intro w hSw
                (try dsimp only at hSw)
                first | (go_simp; done) | (go_simp; with_reducible rfl) | with_reducible rfl
              simp only [Act.put, List.setIfInBounds_toArray, List.set_cons_zero, List.set_cons_succ]
              refine tk (v := ?_) 6 ?_ ?_
              rotate_left
              · intro w hSw
                (try dsimp only at hSw)
                first | (go_simp; done) | (go_simp; with_reducible rfl) | with_reducible rfl
              simp only [Act.put, List.setIfInBounds_toArray, List.set_cons_zero, List.set_cons_succ]
              refine tk (v := ?_) 7 ?_ ?_
              rotate_left
              · intro w hSw
                (try dsimp only at hSw)
                first | (go_simp; done) | (go_simp; with_reducible rfl) | with_reducible rfl
              simp only [Act.put, List.setIfInBounds_toArray, List.set_cons_zero, List.set_cons_succ]
              refine tk (v := ?_) 8 ?_ ?_
              rotate_left
              · intro w hSw
                (try dsimp only at hSw)
                first | (go_simp; done) | (go_simp; with_reducible rfl) | with_reducible rfl
              simp only [Act.put, List.setIfInBounds_toArray, List.set_cons_zero, List.set_cons_succ]
              refine tk (v := ?_) 9 ?_ ?_
              rotate_left
              · intro w hSw
                (try dsimp only at hSw)
                first | (go_simp; done) | (go_simp; with_reducible rfl) | with_reducible rfl
              simp only [Act.put, List.setIfInBounds_toArray, List.set_cons_zero, List.set_cons_succ]
              refine tk (v := ?_) 10 ?_ ?_
              rotate_left
              · intro w hSw
                (try dsimp only at hSw)
                first | (go_simp; done) | (go_simp; with_reducible rfl) | with_reducible rfl
              simp only [Act.put, List.setIfInBounds_toArray, List.set_cons_zero, List.set_cons_succ]
              refine tk (v := ?_) 11 ?_ ?_
              rotate_left
              · intro w hSw
                (try dsimp only at hSw)
                first | (go_simp; done) | (go_simp; with_reducible rfl) | with_reducible rfl
              simp only [Act.put, List.setIfInBounds_toArray, List.set_cons_zero, List.set_cons_succ]
              refine wpAnyH_done (by kernel_rfl) ?_ _
              go_wp2
              refine name_worldA (p := fun W => bodyPost _ _ _ _ _ W) (fun W8 hW8 => ?_)
              have b0x : Blk W8 w.heap.size #[.string m.old, .string m.new, .string m.name, .slice ta m.tr.length tc, .slice pa m.pe.length pc, .slice wa m.ws.length wc, .slice oa m.on.length oc] 27 := by
                rw [hW8]
                apply Blk.row
                · repeat (first | with_reducible exact BMr.out | (with_reducible apply Blk.newAt; (simp; done)) | with_reducible apply Blk.alloc | with_reducible apply Blk.drew | with_reducible apply Blk.drewN | with_reducible apply Blk.set | (with_reducible apply Blk.other; · first | (simp; done) | (simp; omega) | omega) | (with_reducible apply Blk.putObj; · first | (simp; done) | (simp; omega) | omega))
                · rfl
              have m8x : Mod (fun j => j = w.heap.size) wr W8 := by
                rw [hW8]
                repeat (first | with_reducible exact Mod.refl _ wr | with_reducible refine Mod.alloc ?_ _ | with_reducible refine Mod.drew ?_ | with_reducible refine Mod.drewN ?_ _ | (with_reducible refine Mod.set ?_ _ _ (by first | exact .inl rfl | (right; omega) | (right; simp; done) | (right; simp; omega) | (left; omega) | (left; simp; done) | (left; simp; omega))) | (with_reducible refine Mod.putObj ?_ _ _ (by first | exact .inl rfl | (right; omega) | (right; simp; done) | (right; simp; omega) | (left; omega) | (left; simp; done) | (left; simp; omega))))
              have N8 : Hid (New w W8) := hid (NR.out.trans' m8x (fun j h1 h2 => by omega))
              have q : ∀ {v : Value} {e : TypeId} {size n' : Nat} {xs : List Value}, wr.ownsRow w2.heap.size e size v n' xs → W8.ownsRow w.heap.size e size v n' xs := fun g => rowBase (rowMod g m8x (fun k q q2 => by have := (rowBlock g q).1; have := HW2.out; omega)) (by have := HW2.out; omega)
              have HMG := hid (show MagIs W8 w.heap.size (.agg #[.string m.old, .string m.new, .string m.name, .slice ta m.tr.length tc, .slice pa m.pe.length pc, .slice wa m.ws.length wc, .slice oa m.on.length oc]) m from ⟨_, _, _, _, rfl, q QTR.out, q QPE.out, q QWS.out, q QON.out⟩)
              clear hW8 m8x q
              refine bodyPost_ret (v := .tuple #[.agg #[.string m.old, .string m.new, .string m.name, .slice ta m.tr.length tc, .slice pa m.pe.length pc, .slice wa m.ws.length wc, .slice oa m.on.length oc], .int .i64 0]) (rmp_results _ _ w.heap.size _ _ _ _ _ _ _ _ b0x rfl rfl) rfl ⟨?_, N8.out⟩
              rw [HX.out]
              exact ⟨_, rfl, HMG.out⟩
end Go.Proofs.YtbgmkplpolgebaaGreatDoor
