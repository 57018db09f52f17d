/-
  Several texts in one, in their build order. The reference's Runs. Conditions: the field is right; at most 4096 bits. A field's bytes made bit by bit, told in plain words. Plain Lean, no program. No condition. The walks of empty and New (package bits). Condition: at most 4096 bits.
-/
import Derived.Test.YtbgmkplpolgebaaGreatDoorM14
import Derived.Test.YtbgmkplpolgebaaGreatDoorM16
import Derived.Test.YtbgmkplpolgebaaGreatDoorM9
namespace Go.Proofs.YtbgmkplpolgebaaGreatDoor
set_option linter.unusedSimpArgs false
set_option linter.unusedVariables false
open Go.RowKit Go.Shelf

set_option maxRecDepth 100000 in
set_option maxHeartbeats 8000000 in
theorem rRuns_any (n : Nat) (s : ByteArray) (w : World) (h : FieldOf n s.data.toList) (hn : n ≤ 4096) : Calls Tryz.prog 45 #[.int .i64 n, .string s] w fun e w' => ∃ v, e = .returned (.tuple #[v, .int .i64 0]) ∧ OwnR w' w.heap.size v (runsF n s.data.toList) ∧ New w w' := by
  have HLI := hid (rlist_any n s w h hn)
  obtain ⟨i0, hi0, hz0, hz1, hz2⟩ := info_parts info_runB
  obtain ⟨N, hN⟩ : ∃ N, N = numsL n s.data.toList := ⟨_, rfl⟩
  have hNl : N.length ≤ n := by rw [hN]; exact numsL_leB n _
  have HNL := hid (show ∀ j ∈ N, j < n by rw [hN]; exact fun j hj => numsL_lt hj)
  have HRN := hid (show runsF n s.data.toList = runsN N by rw [hN]; rfl)
  rw [← hN] at HLI
  rw [HRN.out]
  clear h hN
  go_enter Tryz.func45, Tryz.ntmps45
  go_wp2_with fail
  refine HLI.out.mono ?_
  rintro e w1 ⟨vl, rfl, ol, n1⟩
  have N1 := hid n1
  obtain ⟨la, lc, rfl, -, hlc, hlm, hat⟩ := ol.form
  have hnv : (numV N).length = N.length := by unfold numV; simp
  have HAT : Hid (N.length = 0 ∨ ∃ g, la = some ⟨g, 0, none⟩ ∧ ∀ (i : Nat) (hi : i < N.length), w1.cell? ⟨g, i, none⟩ = some (.int .i64 (N[i] : Int))) := hid (by
    rcases hat with q | ⟨g, q1, -, -, -, q2⟩
    · rw [q] at hnv
      exact .inl (by simpa using hnv.symm)
    · refine .inr ⟨g, q1, fun i hi => ?_⟩
      rw [q2 i (by rw [hnv]; exact hi)]
      unfold numV
      simp)
  rw [hnv] at hlc ⊢
  unfold maxLen at hlm
  clear hat ol n1 hnv HLI
  go_wp2
  go_loopw [20, 8] (fun i o wr => ∃ (k : Nat) (v : Value), i = .int .i64 k ∧ v = o ∧ k ≤ N.length ∧ OwnR wr w1.heap.size v (runsN (N.take k)) ∧ New w1 wr) (fun i _ _ => N.length - (intOf i).toNat)
  case atStart => exact ⟨0, _, rfl, rfl, by omega, OwnR.nil _ _, Mod.refl _ _⟩
  case round =>
    obtain ⟨k, v, rfl, rfl, hk, hO, hN'⟩ := hrel
    have HO := hid hO; have HN := hid hN'
    obtain ⟨hG1, hG2⟩ := runs_good (n := n) (N.take k) (fun j hj => HNL.out j (List.mem_of_mem_take hj))
    have htl : (N.take k).length = k := by rw [List.length_take]; omega
    rw [htl] at hG2
    clear hO hN' htl
    by_cases hlt : k < N.length
    · have hltI : (k : Int) < (N.length : Int) := by omega
      rcases HAT.out with hnil | ⟨gl, rfl, hcc⟩
      · omega
      have g0 := New.cellv HN.out (hcc k hlt)
      have hib := HNL.out _ (List.getElem_mem hlt)
      have hlall := List.take_succ_eq_append_getElem hlt
      obtain ⟨i, hii⟩ : ∃ i, i = N[k] := ⟨_, rfl⟩
      rw [← hii] at g0 hib hlall
      have HTK := hid (show runsN (N.take (k + 1)) = runsN (N.take k ++ [i]) by rw [hlall])
      obtain ⟨T, hT⟩ : ∃ T, T = N.take k := ⟨_, rfl⟩
      rw [← hT] at HO hG1 hG2 HTK
      clear hcc hii hlall hT
      obtain ⟨a, c, hv, hvb⟩ := HO.out.form
      have HVB := hid hvb
      clear hvb
      rcases snoc_form (runsN T) with e | ⟨A, r, e⟩
      · have hnx : runsN (T ++ [i]) = [] ++ [((i : Int), 1)] := by rw [runsN_snoc, e, runPut_nil]; rfl
        rw [e] at HO
        rw [e, List.length_nil] at hv
        subst hv
        have HNX := hid hnx
        clear hnx e
        go_wp2
        refine wp_region_held_drew (S := (fun w' => True)) (by kernel_rfl) trivial (fun hHeld => ?_)
        refine tk (v := ?_) 0 ?_ ?_
        rotate_left
        · intro w hSw
          (try dsimp only at hSw)
          first | (go_simp; done) | (go_simp; with_reducible rfl) | with_reducible rfl
        simp only [Act.put, List.setIfInBounds_toArray, List.set_cons_zero, List.set_cons_succ]
        refine tk (v := ?_) 1 ?_ ?_
        rotate_left
        · intro w hSw
          (try dsimp only at hSw)
          first | (go_simp; done) | (go_simp; with_reducible rfl) | with_reducible rfl
        simp only [Act.put, List.setIfInBounds_toArray, List.set_cons_zero, List.set_cons_succ]
        refine tk (v := ?_) 2 ?_ ?_
        rotate_left
        · intro w hSw
          (try dsimp only at hSw)
          first | (go_simp; done) | (go_simp; with_reducible rfl) | with_reducible rfl
        simp only [Act.put, List.setIfInBounds_toArray, List.set_cons_zero, List.set_cons_succ]
        refine sk 3 ?_
        simp only [Act.put, List.setIfInBounds_toArray, List.set_cons_zero, List.set_cons_succ]
        refine sk 4 ?_
        simp only [Act.put, List.setIfInBounds_toArray, List.set_cons_zero, List.set_cons_succ]
        refine sk 5 ?_
        simp only [Act.put, List.setIfInBounds_toArray, List.set_cons_zero, List.set_cons_succ]
        refine sk 6 ?_
        simp only [Act.put, List.setIfInBounds_toArray, List.set_cons_zero, List.set_cons_succ]
        refine sk 7 ?_
        simp only [Act.put, List.setIfInBounds_toArray, List.set_cons_zero, List.set_cons_succ]
        refine sk 8 ?_
        simp only [Act.put, List.setIfInBounds_toArray, List.set_cons_zero, List.set_cons_succ]
        refine sk 9 ?_
        simp only [Act.put, List.setIfInBounds_toArray, List.set_cons_zero, List.set_cons_succ]
        refine sk 10 ?_
        simp only [Act.put, List.setIfInBounds_toArray, List.set_cons_zero, List.set_cons_succ]
        refine sk 11 ?_
        simp only [Act.put, List.setIfInBounds_toArray, List.set_cons_zero, List.set_cons_succ]
        refine sk 12 ?_
        simp only [Act.put, List.setIfInBounds_toArray, List.set_cons_zero, List.set_cons_succ]
        refine sk 13 ?_
        simp only [Act.put, List.setIfInBounds_toArray, List.set_cons_zero, List.set_cons_succ]
        refine sk 14 ?_
        simp only [Act.put, List.setIfInBounds_toArray, List.set_cons_zero, List.set_cons_succ]
        refine sk 15 ?_
        simp only [Act.put, List.setIfInBounds_toArray, List.set_cons_zero, List.set_cons_succ]
        refine tk (v := ?_) 16 ?_ ?_
        rotate_left
        · intro w hSw
          (try dsimp only at hSw)
          first | (go_simp; done) | (go_simp; with_reducible rfl) | with_reducible rfl
        simp only [Act.put, List.setIfInBounds_toArray, List.set_cons_zero, List.set_cons_succ]
        refine wpAnyH_done (by kernel_rfl) ?_ _
        have hL4 : (([] : List (Int × Int)) ++ [((i : Int), (1 : Int))]).length = 1 := by simp
        go_wp2_with (at_builtin; refine wpList_append_own_at _ rfl _ _ 25 rfl w1.heap.size 66 i0 _ 2 16 Tryz.underlying25 hi0 hz0 hz1 hz2 rfl (by decide) _ (0) (runRow (([] : List (Int × Int)))) rfl ?ow ⟨wr.heap.size, 0, none⟩ 1 1 [.int .i64 i, .int .i64 1] rfl rfl ?hn ?h1 ?h63 ?hby ?hba ?_)
        case ow =>
          have h := HO.out.new (((Mod.refl _ wr).alloc (.cells #[.int .i64 i, .int .i64 1] 66)).drew)
          unfold OwnR at h
          first
            | exact h
            | (rw [List.length_append] at h; exact h)
        case hn => exact fun j u hj => two_new wr _ _ _ rfl j u hj
        case h1 => intro u hu; simp at hu; rcases hu with rfl | rfl <;> rfl
        case h63 => unfold maxLen; omega
        case hby => omega
        case hba => have := HN.out.size; simp; omega
        intro o4 w4 r4 g4 _ _
        have O4 : Hid (OwnR w4 w1.heap.size o4 (([] : List (Int × Int)) ++ [((i : Int), 1)])) := hid (by
          unfold OwnR
          rw [hL4, runRow_app]
          exact r4)
        rw [← HNX.out] at O4
        have N4 : Hid (New w1 w4) := hid (newGrown (((HN.out.alloc _).drew)) g4 (fun j hj => HVB.out j hj))
        clear r4 g4
        go_wp2
        exact ⟨⟨k + 1, _, by simp, rfl, by omega, by rw [HTK.out]; exact O4.out, N4.out⟩, by simp [intOf]; omega⟩
      · have hUL : (runsN T).length = A.length + 1 := by rw [e]; simp
        have hAl : A.length ≤ 4096 := by omega
        rw [e] at HO
        obtain ⟨g, cap2, hv2, hg1, hg2, -, hgf, hcp1, hcp2, hcc⟩ := HO.out.at' (by simp)
        rw [hUL] at hv
        rw [hv] at hv2
        simp only [List.length_append, List.length_singleton] at hv2 hcp1
        injection hv2 with q1 q2 q3
        subst q1 q3
        have hgr := hG1 r (by rw [e]; simp)
        obtain ⟨k0, k1⟩ := hcc A.length (by simp)
        rw [List.getElem_append_right (Nat.le_refl _)] at k0 k1
        simp only [Nat.sub_self, List.getElem_cons_zero] at k0 k1
        subst hv
        obtain ⟨gr0, gr1, gr2⟩ := hgr
        have hm0 : ((A.length : Int) + 1) - 1 = (A.length : Int) := by omega
        unfold maxLen at hcp2
        have hlA : A.length < A.length + 1 := Nat.lt_succ_self _
        have hlI : (A.length : Int) < (A.length : Int) + 1 := by omega
        have hlJ : (A.length : Int) < ((A.length + 1 : Nat) : Int) := by omega
        have hl2 : ((A.length : Int)).toNat = A.length := by omega
        clear hcc
        by_cases hon : r.1 + r.2 = (i : Int)
        · have HNX := hid (show runsN (T ++ [i]) = A ++ [(r.1, r.2 + 1)] by rw [runsN_snoc, e, runPut_on _ _ _ hon])
          have hb1 : (r.1 + r.2 == (i : Int)) = true := by rw [beq_iff_eq]; exact hon
          have hwi : IntKind.i64.wrap (i : Int) = (i : Int) := by rw [IntKind.wrap_i64]; omega
          clear e
          go_wp2
          refine wp_region_held_drew (S := (fun w' => w'.cell? ⟨g, A.length * 2, none⟩ = some (.int .i64 r.1) ∧ w'.cell? ⟨g, A.length * 2 + 1, none⟩ = some (.int .i64 r.2))) (by kernel_rfl) ⟨k0, k1⟩ (fun hHeld => ?_)
          refine tk (v := ?_) 0 ?_ ?_
          rotate_left
          · intro w hSw
            (try dsimp only at hSw)
            first | (go_simp; done) | (go_simp; with_reducible rfl) | with_reducible rfl
          simp only [Act.put, List.setIfInBounds_toArray, List.set_cons_zero, List.set_cons_succ]
          refine tk (v := ?_) 1 ?_ ?_
          rotate_left
          · intro w hSw
            (try dsimp only at hSw)
            first | (go_simp; done) | (go_simp; with_reducible rfl) | with_reducible rfl
          simp only [Act.put, List.setIfInBounds_toArray, List.set_cons_zero, List.set_cons_succ]
          refine tk (v := ?_) 2 ?_ ?_
          rotate_left
          · intro w hSw
            (try dsimp only at hSw)
            first | (go_simp; done) | (go_simp; with_reducible rfl) | with_reducible rfl
          simp only [Act.put, List.setIfInBounds_toArray, List.set_cons_zero, List.set_cons_succ]
          refine tk (v := ?_) 3 ?_ ?_
          rotate_left
          · intro w hSw
            (try dsimp only at hSw)
            first | (go_simp; done) | (go_simp; with_reducible rfl) | with_reducible rfl
          simp only [Act.put, List.setIfInBounds_toArray, List.set_cons_zero, List.set_cons_succ]
          refine tk (v := ?_) 4 ?_ ?_
          rotate_left
          · intro w hSw
            (try dsimp only at hSw)
            first | (go_simp; done) | (go_simp; with_reducible rfl) | with_reducible rfl
          simp only [Act.put, List.setIfInBounds_toArray, List.set_cons_zero, List.set_cons_succ]
          refine tk (v := ?_) 5 ?_ ?_
          rotate_left
          · intro w hSw
            (try dsimp only at hSw)
            first | (go_simp; done) | (go_simp; with_reducible rfl) | with_reducible rfl
          simp only [Act.put, List.setIfInBounds_toArray, List.set_cons_zero, List.set_cons_succ]
          refine tk (v := ?_) 6 ?_ ?_
          rotate_left
          · intro w hSw
            (try dsimp only at hSw)
            first | (go_simp; done) | (go_simp; with_reducible rfl) | with_reducible rfl
          simp only [Act.put, List.setIfInBounds_toArray, List.set_cons_zero, List.set_cons_succ]
          refine tk (v := ?_) 7 ?_ ?_
          rotate_left
          · intro w hSw
            (try dsimp only at hSw)
            first | (go_simp; done) | (go_simp; with_reducible rfl) | with_reducible rfl
          simp only [Act.put, List.setIfInBounds_toArray, List.set_cons_zero, List.set_cons_succ]
          refine tk (v := ?_) 8 ?_ ?_
          rotate_left
          · intro w hSw
            (try dsimp only at hSw)
            first | (go_simp; done) | (go_simp; with_reducible rfl) | with_reducible rfl
          simp only [Act.put, List.setIfInBounds_toArray, List.set_cons_zero, List.set_cons_succ]
          refine tk (v := ?_) 9 ?_ ?_
          rotate_left
          · intro w hSw
            (try dsimp only at hSw)
            first | (go_simp; done) | (go_simp; with_reducible rfl) | with_reducible rfl
          simp only [Act.put, List.setIfInBounds_toArray, List.set_cons_zero, List.set_cons_succ]
          refine tk (v := ?_) 10 ?_ ?_
          rotate_left
          · intro w hSw
            (try dsimp only at hSw)
            first | (go_simp; done) | (go_simp; with_reducible rfl) | with_reducible rfl
          simp only [Act.put, List.setIfInBounds_toArray, List.set_cons_zero, List.set_cons_succ]
          refine tk (v := ?_) 11 ?_ ?_
          rotate_left
          · intro w hSw
            (try dsimp only at hSw)
            first | (go_simp; done) | (go_simp; with_reducible rfl) | with_reducible rfl
          simp only [Act.put, List.setIfInBounds_toArray, List.set_cons_zero, List.set_cons_succ]
          refine tk (v := ?_) 12 ?_ ?_
          rotate_left
          · intro w hSw
            (try dsimp only at hSw)
            first | (go_simp; done) | (go_simp; with_reducible rfl) | with_reducible rfl
          simp only [Act.put, List.setIfInBounds_toArray, List.set_cons_zero, List.set_cons_succ]
          refine tk (v := ?_) 13 ?_ ?_
          rotate_left
          · intro w hSw
            (try dsimp only at hSw)
            first | (go_simp; done) | (go_simp; with_reducible rfl) | with_reducible rfl
          simp only [Act.put, List.setIfInBounds_toArray, List.set_cons_zero, List.set_cons_succ]
          refine tk (v := ?_) 14 ?_ ?_
          rotate_left
          · intro w hSw
            (try dsimp only at hSw)
            first | (go_simp; done) | (go_simp; with_reducible rfl) | with_reducible rfl
          simp only [Act.put, List.setIfInBounds_toArray, List.set_cons_zero, List.set_cons_succ]
          refine tk (v := ?_) 15 ?_ ?_
          rotate_left
          · intro w hSw
            (try dsimp only at hSw)
            first | (go_simp; done) | (go_simp; with_reducible rfl) | with_reducible rfl
          simp only [Act.put, List.setIfInBounds_toArray, List.set_cons_zero, List.set_cons_succ]
          refine tk (v := ?_) 16 ?_ ?_
          rotate_left
          · intro w hSw
            (try dsimp only at hSw)
            first | (go_simp; done) | (go_simp; with_reducible rfl) | with_reducible rfl
          simp only [Act.put, List.setIfInBounds_toArray, List.set_cons_zero, List.set_cons_succ]
          refine wpAnyH_done (by kernel_rfl) ?_ _
          go_wp2
          refine ⟨⟨k + 1, _, by simp, rfl, by omega, ?_, ?_⟩, by simp [intOf]; omega⟩
          · rw [HTK.out, HNX.out]
            exact (HO.out.put (r.2 + 1)).new ((Mod.refl _ _).drew)
          · exact Mod.drew (Mod.set HN.out _ _ (.inr hg1))
        · have hwr : IntKind.i64.wrap (r.1 + r.2) = r.1 + r.2 := by rw [IntKind.wrap_i64]; omega
          have HNX := hid (show runsN (T ++ [i]) = A ++ [r] ++ [((i : Int), 1)] by rw [runsN_snoc, e, runPut_new _ _ _ hon])
          have hb1 : (r.1 + r.2 == (i : Int)) = false := by rw [beq_eq_false_iff_ne]; exact hon
          clear e
          go_wp2
          refine wp_region_held_drew (S := (fun w' => w'.cell? ⟨g, A.length * 2, none⟩ = some (.int .i64 r.1) ∧ w'.cell? ⟨g, A.length * 2 + 1, none⟩ = some (.int .i64 r.2))) (by kernel_rfl) ⟨k0, k1⟩ (fun hHeld => ?_)
          refine tk (v := ?_) 0 ?_ ?_
          rotate_left
          · intro w hSw
            (try dsimp only at hSw)
            first | (go_simp; done) | (go_simp; with_reducible rfl) | with_reducible rfl
          simp only [Act.put, List.setIfInBounds_toArray, List.set_cons_zero, List.set_cons_succ]
          refine tk (v := ?_) 1 ?_ ?_
          rotate_left
          · intro w hSw
            (try dsimp only at hSw)
            first | (go_simp; done) | (go_simp; with_reducible rfl) | with_reducible rfl
          simp only [Act.put, List.setIfInBounds_toArray, List.set_cons_zero, List.set_cons_succ]
          refine tk (v := ?_) 2 ?_ ?_
          rotate_left
          · intro w hSw
            (try dsimp only at hSw)
            first | (go_simp; done) | (go_simp; with_reducible rfl) | with_reducible rfl
          simp only [Act.put, List.setIfInBounds_toArray, List.set_cons_zero, List.set_cons_succ]
          refine tk (v := ?_) 3 ?_ ?_
          rotate_left
          · intro w hSw
            (try dsimp only at hSw)
            first | (go_simp; done) | (go_simp; with_reducible rfl) | with_reducible rfl
          simp only [Act.put, List.setIfInBounds_toArray, List.set_cons_zero, List.set_cons_succ]
          refine tk (v := ?_) 4 ?_ ?_
          rotate_left
          · intro w hSw
            (try dsimp only at hSw)
            first | (go_simp; done) | (go_simp; with_reducible rfl) | with_reducible rfl
          simp only [Act.put, List.setIfInBounds_toArray, List.set_cons_zero, List.set_cons_succ]
          refine tk (v := ?_) 5 ?_ ?_
          rotate_left
          · intro w hSw
            (try dsimp only at hSw)
            first | (go_simp; done) | (go_simp; with_reducible rfl) | with_reducible rfl
          simp only [Act.put, List.setIfInBounds_toArray, List.set_cons_zero, List.set_cons_succ]
          refine tk (v := ?_) 6 ?_ ?_
          rotate_left
          · intro w hSw
            (try dsimp only at hSw)
            first | (go_simp; done) | (go_simp; with_reducible rfl) | with_reducible rfl
          simp only [Act.put, List.setIfInBounds_toArray, List.set_cons_zero, List.set_cons_succ]
          refine tk (v := ?_) 7 ?_ ?_
          rotate_left
          · intro w hSw
            (try dsimp only at hSw)
            first | (go_simp; done) | (go_simp; with_reducible rfl) | with_reducible rfl
          simp only [Act.put, List.setIfInBounds_toArray, List.set_cons_zero, List.set_cons_succ]
          refine tk (v := ?_) 8 ?_ ?_
          rotate_left
          · intro w hSw
            (try dsimp only at hSw)
            first | (go_simp; done) | (go_simp; with_reducible rfl) | with_reducible rfl
          simp only [Act.put, List.setIfInBounds_toArray, List.set_cons_zero, List.set_cons_succ]
          refine tk (v := ?_) 9 ?_ ?_
          rotate_left
          · intro w hSw
            (try dsimp only at hSw)
            first | (go_simp; done) | (go_simp; with_reducible rfl) | with_reducible rfl
          simp only [Act.put, List.setIfInBounds_toArray, List.set_cons_zero, List.set_cons_succ]
          refine tk (v := ?_) 10 ?_ ?_
          rotate_left
          · intro w hSw
            (try dsimp only at hSw)
            first | (go_simp; done) | (go_simp; with_reducible rfl) | with_reducible rfl
          simp only [Act.put, List.setIfInBounds_toArray, List.set_cons_zero, List.set_cons_succ]
          refine tk (v := ?_) 11 ?_ ?_
          rotate_left
          · intro w hSw
            (try dsimp only at hSw)
            first | (go_simp; done) | (go_simp; with_reducible rfl) | with_reducible rfl
          simp only [Act.put, List.setIfInBounds_toArray, List.set_cons_zero, List.set_cons_succ]
          refine tk (v := ?_) 12 ?_ ?_
          rotate_left
          · intro w hSw
            (try dsimp only at hSw)
            first | (go_simp; done) | (go_simp; with_reducible rfl) | with_reducible rfl
          simp only [Act.put, List.setIfInBounds_toArray, List.set_cons_zero, List.set_cons_succ]
          refine tk (v := ?_) 13 ?_ ?_
          rotate_left
          · intro w hSw
            (try dsimp only at hSw)
            first | (go_simp; done) | (go_simp; with_reducible rfl) | with_reducible rfl
          simp only [Act.put, List.setIfInBounds_toArray, List.set_cons_zero, List.set_cons_succ]
          refine tk (v := ?_) 14 ?_ ?_
          rotate_left
          · intro w hSw
            (try dsimp only at hSw)
            first | (go_simp; done) | (go_simp; with_reducible rfl) | with_reducible rfl
          simp only [Act.put, List.setIfInBounds_toArray, List.set_cons_zero, List.set_cons_succ]
          refine tk (v := ?_) 15 ?_ ?_
          rotate_left
          · intro w hSw
            (try dsimp only at hSw)
            first | (go_simp; done) | (go_simp; with_reducible rfl) | with_reducible rfl
          simp only [Act.put, List.setIfInBounds_toArray, List.set_cons_zero, List.set_cons_succ]
          refine tk (v := ?_) 16 ?_ ?_
          rotate_left
          · intro w hSw
            (try dsimp only at hSw)
            first | (go_simp; done) | (go_simp; with_reducible rfl) | with_reducible rfl
          simp only [Act.put, List.setIfInBounds_toArray, List.set_cons_zero, List.set_cons_succ]
          refine wpAnyH_done (by kernel_rfl) ?_ _
          have hL4 : ((A ++ [r]) ++ [((i : Int), (1 : Int))]).length = (A.length + 2) := by simp
          go_wp2_with (at_builtin; refine wpList_append_own_at _ rfl _ _ 25 rfl w1.heap.size 66 i0 _ 2 16 Tryz.underlying25 hi0 hz0 hz1 hz2 rfl (by decide) _ ((A.length + 1)) (runRow ((A ++ [r]))) rfl ?ow ⟨wr.heap.size, 0, none⟩ 1 1 [.int .i64 i, .int .i64 1] rfl rfl ?hn ?h1 ?h63 ?hby ?hba ?_)
          case ow =>
            have h := HO.out.new (((Mod.refl _ wr).alloc (.cells #[.int .i64 i, .int .i64 1] 66)).drew)
            unfold OwnR at h
            first
              | exact h
              | (rw [List.length_append] at h; exact h)
          case hn => exact fun j u hj => two_new wr _ _ _ rfl j u hj
          case h1 => intro u hu; simp at hu; rcases hu with rfl | rfl <;> rfl
          case h63 => unfold maxLen; omega
          case hby => omega
          case hba => have := HN.out.size; simp; omega
          intro o4 w4 r4 g4 _ _
          have O4 : Hid (OwnR w4 w1.heap.size o4 ((A ++ [r]) ++ [((i : Int), 1)])) := hid (by
            unfold OwnR
            rw [hL4, runRow_app]
            exact r4)
          rw [← HNX.out] at O4
          have N4 : Hid (New w1 w4) := hid (newGrown (((HN.out.alloc _).drew)) g4 (fun j hj => HVB.out j hj))
          clear r4 g4
          go_wp2
          exact ⟨⟨k + 1, _, by simp, rfl, by omega, by rw [HTK.out]; exact O4.out, N4.out⟩, by simp [intOf]; omega⟩
    · obtain rfl : k = N.length := by omega
      rw [List.take_length] at HO
      go_wp2
      go_ret2
      exact ⟨_, rfl, HO.out.base N1.out.size, N1.out.trans HN.out⟩
end Go.Proofs.YtbgmkplpolgebaaGreatDoor

namespace Go.Proofs.YtbgmkplpolgebaaGreatDoor
set_option linter.unusedSimpArgs false
set_option linter.unusedVariables false

def stB (b : UInt8) (m i : Nat) : UInt8 := if m < i / 8 then b else if m = i / 8 then UInt8.ofNat (b.toNat / 2 ^ (8 - i % 8)) else 0
def stF (S : List UInt8) (i : Nat) : List UInt8 := S.mapIdx (fun m b => stB b m i)
theorem stF_len (S : List UInt8) (i : Nat) : (stF S i).length = S.length := by unfold stF; simp
theorem stF_get (S : List UInt8) (i m : Nat) (h : m < S.length) : (stF S i)[m]'(by rw [stF_len]; exact h) = stB S[m] m i := by
  unfold stF
  rw [List.getElem_mapIdx]
theorem byte_div (b : UInt8) : UInt8.ofNat (b.toNat / 2 ^ 8) = 0 := by
  have := b.toNat_lt
  rw [Nat.div_eq_of_lt (by omega)]
  rfl
theorem stF_zero (S : List UInt8) : stF S 0 = List.replicate S.length 0 := by
  apply List.ext_getElem
  · rw [stF_len]; simp
  · intro m h1 h2
    rw [stF_len] at h1
    rw [stF_get S 0 m h1, List.getElem_replicate]
    unfold stB
    rw [if_neg (by omega)]
    by_cases e : m = 0 / 8
    · rw [if_pos e]
      exact byte_div _
    · rw [if_neg e]
theorem stF_end (S : List UInt8) : stF S (8 * S.length) = S := by
  apply List.ext_getElem
  · rw [stF_len]
  · intro m h1 h2
    rw [stF_get S _ m h2]
    unfold stB
    rw [if_pos (by omega)]
def bitN (b : Bool) : Nat := if b then 1 else 0
theorem byte_step (b : UInt8) (j : Nat) (hj : j < 8) : b.toNat / 2 ^ (8 - j) ≤ 127 ∧ 2 * (b.toNat / 2 ^ (8 - j)) + bitN (bitB b j) = b.toNat / 2 ^ (8 - (j + 1)) := by
  have key : ∀ n : Nat, n < 256 → ∀ j : Nat, j < 8 → n / 2 ^ (8 - j) ≤ 127 ∧ 2 * (n / 2 ^ (8 - j)) + bitN (bitB (UInt8.ofNat n) j) = n / 2 ^ (8 - (j + 1)) := by decide +kernel
  have h := key b.toNat b.toNat_lt j hj
  rw [UInt8.ofNat_toNat] at h
  exact h
theorem stF_step (S : List UInt8) (i : Nat) (hi : i / 8 < S.length) : ((stF S i)[i / 8]'(by rw [stF_len]; exact hi)).toNat ≤ 127 ∧ (stF S i).set (i / 8) (UInt8.ofNat (2 * ((stF S i)[i / 8]'(by rw [stF_len]; exact hi)).toNat + bitN (bitL S i))) = stF S (i + 1) := by
  have hb : bitL S i = bitB S[i / 8] (i % 8) := by
    unfold bitL
    rw [List.getD_eq_getElem?_getD, List.getElem?_eq_getElem hi]
    rfl
  obtain ⟨h1, h2⟩ := byte_step S[i / 8] (i % 8) (by omega)
  have hg : (stF S i)[i / 8]'(by rw [stF_len]; exact hi) = UInt8.ofNat (S[i / 8].toNat / 2 ^ (8 - i % 8)) := by
    rw [stF_get S i _ hi]
    unfold stB
    rw [if_neg (by omega), if_pos rfl]
  have hgn : (UInt8.ofNat (S[i / 8].toNat / 2 ^ (8 - i % 8))).toNat = S[i / 8].toNat / 2 ^ (8 - i % 8) := by
    rw [UInt8.toNat_ofNat']
    omega
  rw [hg, hgn, hb, h2]
  refine ⟨h1, ?_⟩
  apply List.ext_getElem
  · rw [List.length_set, stF_len, stF_len]
  · intro m q1 q2
    rw [stF_len] at q2
    rw [List.getElem_set, stF_get S (i + 1) m q2]
    by_cases e : i / 8 = m
    · subst e
      rw [if_pos rfl]
      unfold stB
      by_cases e7 : i % 8 = 7
      · rw [if_pos (by omega), e7]
        simp
      · rw [if_neg (by omega), if_pos (by omega), show (i + 1) % 8 = i % 8 + 1 by omega]
    · rw [if_neg e, stF_get S i m q2]
      unfold stB
      by_cases c1 : m < i / 8
      · rw [if_pos c1, if_pos (by omega)]
      · have c3 : ¬ m = i / 8 := fun q => e q.symm
        have c4 : ¬ m < (i + 1) / 8 := by omega
        rw [if_neg c1, if_neg c3, if_neg c4]
        by_cases c2 : m = (i + 1) / 8
        · rw [if_pos c2, show (i + 1) % 8 = 0 by omega]
          exact (byte_div _).symm
        · rw [if_neg c2]
end Go.Proofs.YtbgmkplpolgebaaGreatDoor

namespace Go.Proofs.YtbgmkplpolgebaaGreatDoor
set_option linter.unusedSimpArgs false
set_option linter.unusedVariables false
open Go.RowKit Go.Shelf

theorem made_oneR (v : Value) (n : Nat) (hv : v.cells = #[v]) : madeCells v.cells n = Array.replicate n v := by
  apply Array.ext
  · simp [madeCells]
  · intro i h1 h2
    simp [madeCells, hv, Nat.mod_one]
theorem make_bytesR (n : Nat) (h : n ≤ 65536) (w : World) : (Instr.makeSlice 42 (.int .i64 n) (.int .i64 n)).run Tryz.prog w = .ok (.slice (some ⟨w.heap.size, 0, none⟩) n n) (w.alloc (.cells (Array.replicate n (.int .u8 0)) 5)) := by
  obtain ⟨i0, hi, hz0, hz1, hz2⟩ := info_parts info_byte
  have hr := run_makeSlice (P := Tryz.prog) w 42 5 i0 _ Tryz.underlying42 hi hz0 .i64 .i64 n n (by omega) (by omega) (by rw [hz1]; omega) (by rw [hz2]; omega) (by omega)
  rw [hr, hz1, Nat.mul_one, made_oneR _ _ rfl]
  simp

set_option maxRecDepth 100000 in
set_option maxHeartbeats 4000000 in
theorem bempty_any (n : Nat) (w : World) (hn : n ≤ 4096) : Calls Tryz.prog 99 #[.int .i64 n] w fun e w' => ∃ g c, e = .returned (.agg #[.int .i64 n, .slice (some ⟨g, 0, none⟩) (zerosL n).length c]) ∧ ByAt w' g (zerosL n) ∧ w.heap.size ≤ g ∧ New w w' := by
  have hq : ((n : Int) + 7).tdiv 8 = (((n + 7) / 8 : Nat) : Int) := by rw [Int.tdiv_eq_ediv_of_nonneg (by omega)]; omega
  have hq2 : ((n : Int) + 7) / 8 = (((n + 7) / 8 : Nat) : Int) := by omega
  have hd1 : decide ((n : Int) < 0) = false := decide_eq_false (by omega)
  have hd2 : decide (4096 < (n : Int)) = false := decide_eq_false (by omega)
  have hzl : (zerosL n).length = (n + 7) / 8 := by unfold zerosL; simp
  obtain ⟨K, hK⟩ : ∃ K, K = (n + 7) / 8 := ⟨_, rfl⟩
  rw [← hK] at hq hq2
  have HZ := hid (show zerosL n = List.replicate K 0 by unfold zerosL; rw [hK])
  have hKs : K ≤ 600 := by omega
  have hmk := fun W => make_bytesR K (by omega) W
  clear hK hzl
  go_enter Tryz.func99, Tryz.ntmps99
  go_wp2_with (first | (go_at_call 100; refine (bfail_pass _ _).mono ?_; rintro e w1 ⟨rfl, rfl⟩) | fail)
  refine name_worldZ (p := fun W => bodyPost _ _ _ _ _ W) (fun W6 hW6 => ?_)
  have B6 : Blk W6 w.heap.size #[.int .i64 n, .slice (some ⟨w.heap.size + 1, 0, none⟩) K K] 120 := by
    rw [hW6]
    exact (Blk.new _ _ _).alloc _
  have C6 : Blk W6 (w.heap.size + 1) (Array.replicate K (.int .u8 0)) 5 := by
    rw [hW6]
    exact Blk.newAt (by simp)
  have N6 : New w W6 := by
    rw [hW6]
    exact ((Mod.refl _ _).alloc _).alloc _
  have d0 := B6.cellv 0 rfl; have d1 := B6.cellv 1 rfl
  have hby : ByAt W6 (w.heap.size + 1) (zerosL n) := by
    rw [HZ.out]
    refine ByAt.of_blk C6 (by simp) (fun i hi => ?_)
    simp at hi
    simp [hi]
  refine ⟨rfl, .agg #[.int .i64 n, .slice (some ⟨w.heap.size + 1, 0, none⟩) K K], by simp [results, Tryz.results99, go_sem, d0, d1], w.heap.size + 1, K, by rw [HZ.out]; simp, hby, by omega, N6⟩
theorem fld_1 (x y : Value) (W : World) : (Instr.field 120 (.agg #[x, y]) 1).run Tryz.prog W = .ok y W := by kernel_rfl
set_option maxRecDepth 100000 in
set_option maxHeartbeats 2000000 in
theorem bNew_any (n : Nat) (w : World) (hn : n ≤ 4096) : Calls Tryz.prog 133 #[.int .i64 n] w fun e w' => (∃ s, e = .returned (.tuple #[.string s, .int .i64 0])) ∧ New w w' := by
  have HEM := hid (fun W => bempty_any n W hn)
  have hfd := fld_1
  go_enter_defers Tryz.func133, Tryz.ntmps133
  go_wp2_with fail
  refine (HEM.out _).mono ?_
  rintro e w1 ⟨g, c, rfl, hby, hg, n1⟩
  have N1 : Hid (New w w1) := hid (((Mod.refl _ w).alloc (.cells #[.int .i64 0] 28) : New w _).trans n1)
  have E1 : Hid (Blk w1 w.heap.size #[.int .i64 0] 28) := hid (New.blk n1 (Blk.new _ _ _))
  have HT := hby.text (zerosL n).length c rfl
  have e0 := E1.out.cellv 0 rfl; have el := E1.out.lt; have ef := E1.out.frz 0
  clear hby n1
  go_wp2
  refine leaves_cons (f := 98) (args := #[.pointer (some ⟨w.heap.size, 0, none⟩)]) (by simp) (by simp [go_sem]) ?_
  refine (bcaught_idle ⟨w.heap.size, 0, none⟩ _).mono ?_
  rintro e u' w3 ⟨rfl, rfl, rfl⟩
  have q1 : (w1.setCell ⟨w.heap.size, 0, none⟩ (.int .i64 0)).cell? ⟨w.heap.size, 0, none⟩ = some (.int .i64 0) := (E1.out.set 0 (.int .i64 0)).cellv 0 rfl
  refine ⟨.tuple #[.string ⟨(zerosL n).toArray⟩, .int .i64 0], by simp [results, Tryz.results133, go_sem, q1], ⟨_, rfl⟩, ?_⟩
  exact Mod.set N1.out _ _ (.inr (Nat.le_refl _))
end Go.Proofs.YtbgmkplpolgebaaGreatDoor
