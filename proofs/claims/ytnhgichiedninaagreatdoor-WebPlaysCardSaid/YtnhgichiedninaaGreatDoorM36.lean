/-
  Several texts in one, in their build order. The walk of Under (the reference's client of web seeds): the runs under way, sorted. Conditions: the client lies as told.
-/
import Derived.Test.YtnhgichiedninaaGreatDoorM35
import Derived.Laws.AppendOwnNone
namespace Go.Proofs.YtnhgichiedninaaGreatDoor
set_option linter.unusedSimpArgs false
set_option linter.unusedVariables false
open Go.RowKit Go.Shelf

def underW (L : List WebV) : List (Int × Int) := (L.filter fun v => decide (v.cnt ≠ 0)).map fun v => (v.frm, v.cnt)
theorem underW_next {L : List WebV} {k : Nat} (h : k < L.length) : underW (L.take (k + 1)) = underW (L.take k) ++ (if L[k].cnt = 0 then [] else [(L[k].frm, L[k].cnt)]) := by
  unfold underW
  rw [List.take_succ_eq_append_getElem h, List.filter_append, List.map_append]
  congr 1
  by_cases hc : L[k].cnt = 0 <;> simp [hc]
theorem underW_len (L : List WebV) (k : Nat) : (underW (L.take k)).length ≤ L.length := by
  unfold underW
  rw [List.length_map]
  have h1 := List.length_filter_le (fun v : WebV => decide (v.cnt ≠ 0)) (L.take k)
  have h2 : (L.take k).length ≤ L.length := by rw [List.length_take]; omega
  omega
/-- A run put where it belongs. -/
theorem ins_ok {U : List (Int × Int)} {x : Int × Int} {i : Nat} (hs : U.Pairwise fun a b => a.1 ≤ b.1) (hi : i ≤ U.length) (h1 : ∀ j y, i ≤ j → U[j]? = some y → x.1 < y.1) (h2 : ∀ j y, i = j + 1 → U[j]? = some y → y.1 ≤ x.1) :
    (U.take i ++ x :: U.drop i).Pairwise (fun a b => a.1 ≤ b.1) ∧ (U.take i ++ x :: U.drop i).Perm (x :: U) := by
  refine ⟨?_, ?_⟩
  · have hsp : U = U.take i ++ U.drop i := (List.take_append_drop i U).symm
    have hp := hs
    rw [hsp, List.pairwise_append] at hp
    obtain ⟨p1, p2, p3⟩ := hp
    rw [List.pairwise_append]
    refine ⟨p1, List.pairwise_cons.2 ⟨fun y hy => ?_, p2⟩, fun a ha b hb => ?_⟩
    · obtain ⟨j, hj⟩ := List.getElem?_of_mem hy
      rw [List.getElem?_drop] at hj
      have := h1 (i + j) y (by omega) hj
      omega
    · have hax : a.1 ≤ x.1 := by
        obtain ⟨j, hj⟩ := List.getElem?_of_mem ha
        rw [List.getElem?_take] at hj
        split at hj
        · next hji =>
          obtain ⟨z, hz⟩ : ∃ z, U[i - 1]? = some z := ⟨_, List.getElem?_eq_getElem (by omega)⟩
          have hzx := h2 (i - 1) z (by omega) hz
          by_cases e : j = i - 1
          · subst e
            rw [hz] at hj
            cases hj
            exact hzx
          · have hpp := List.pairwise_iff_getElem.1 hs j (i - 1) (by omega) (by omega) (by omega)
            have e1 := (List.getElem?_eq_some_iff.1 hj).2
            have e2 := (List.getElem?_eq_some_iff.1 hz).2
            rw [e1, e2] at hpp
            omega
        · cases hj
      rcases List.mem_cons.1 hb with e | hb
      · rw [e]; exact hax
      · exact p3 a ha b hb
  · conv => rhs; rw [← List.take_append_drop i U]
    exact List.perm_middle
theorem OwnR.runs {w : World} {base : Nat} {v : Value} {U : List (Int × Int)} (h : OwnR w base v U) : RunsAt w v U := by
  have h0 := h
  rcases h.2 with ⟨rfl, hn⟩ | ⟨g, cap, cur, rfl, hbg, hg, hnc, hcm, hcs, htake⟩
  · have : U = [] := List.eq_nil_of_length_eq_zero hn
    subst this
    exact ⟨none, 0, rfl, by simp, by simp [maxLen], .inl rfl⟩
  · refine ⟨_, cap, rfl, hnc, hcm, .inr ⟨g, rfl, (Array.getElem?_eq_some_iff.1 hg).1, fun i hi => ?_⟩⟩
    have hc : ∀ j u, j < 2 → (runCells U[i])[j]? = some u → w.cell? ⟨g, i * 2 + j, none⟩ = some u := by
      intro j u hj hu
      have h1 := World.ownsRow.cells (g := g) h0 rfl (i * 2 + j) u (by rw [runRow_at (List.getElem?_eq_getElem hi) hj]; exact hu)
      rw [addN] at h1
      simpa using h1
    exact ⟨hc 0 _ (by omega) rfl, hc 1 _ (by omega) rfl⟩
theorem OwnR.base {w : World} {base base' : Nat} {v : Value} {U : List (Int × Int)} (h : OwnR w base v U) (hb : base' ≤ base) : OwnR w base' v U := by
  refine ⟨h.1, ?_⟩
  rcases h.2 with h1 | ⟨g, cap, cur, e, hbg, rest⟩
  · exact .inl h1
  · exact .inr ⟨g, cap, cur, e, Nat.le_trans hb hbg, rest⟩
/-- The cells of a part of an own row, as a source of append. -/
theorem OwnR.part {w : World} {base g cap : Nat} {U : List (Int × Int)} {n : Nat} (h : OwnR w base (.slice (some ⟨g, 0, none⟩) n cap) U) (i : Nat) (V : List (Int × Int)) (hV : ∀ j y, V[j]? = some y → U[i + j]? = some y) : ∀ (j : Nat) (u : Value), (runRow V)[j]? = some u → w.cell? ((⟨g, i * 2, none⟩ : Addr).add j) = some u := by
  intro j u hj
  have hlt : j < V.length * 2 := by rw [← runRow_len]; exact (List.getElem?_eq_some_iff.1 hj).1
  have hjj : j = j / 2 * 2 + j % 2 := by omega
  obtain ⟨y, hy⟩ : ∃ y, V[j / 2]? = some y := ⟨_, List.getElem?_eq_getElem (by omega)⟩
  have h1 := runRow_at hy (show j % 2 < 2 by omega)
  rw [← hjj, hj] at h1
  have h2 := World.ownsRow.cells (g := g) h rfl ((i + j / 2) * 2 + j % 2) u (by rw [runRow_at (hV _ _ hy) (by omega)]; exact h1.symm)
  rw [addN] at h2 ⊢
  rw [show i * 2 + j = 0 + ((i + j / 2) * 2 + j % 2) by omega]
  exact h2
theorem ins_h2 {U : List (Int × Int)} {x : Int} {i : Nat} {y : Int × Int} (hy : U[i]? = some y) (h : ¬ x < y.1) : ∀ (j : Nat) (z : Int × Int), i + 1 = j + 1 → U[j]? = some z → z.1 ≤ x := by
  intro j z hj hz
  obtain rfl : i = j := by omega
  rw [hy] at hz
  cases hz
  omega
theorem cells_one (U : List (Int × Int)) : ∀ u ∈ runRow U, u.oneCell' = true := by
  intro u hu
  unfold runRow at hu
  obtain ⟨y, -, hy⟩ := List.mem_flatMap.1 hu
  simp [runCells] at hy
  rcases hy with rfl | rfl <;> rfl
theorem OwnR.keep {w w' : World} {base g n cap : Nat} {U : List (Int × Int)} {row : Option Nat} (h : OwnR w base (.slice (some ⟨g, 0, none⟩) n cap) U) (hg : w.grownBy w' row) (hne : some g ≠ row) : OwnR w' base (.slice (some ⟨g, 0, none⟩) n cap) U :=
  World.ownsRow.kept h hg (.inr hne)
set_option maxRecDepth 100000 in
set_option maxHeartbeats 16000000 in
theorem rUnder_any (R WB wc DB dc GB gc : Nat) (r : RefV) (w : World) (h : RefAt w R WB wc DB dc GB gc r) :
    Calls Tryz.prog 52 #[.pointer (some ⟨R, 0, none⟩)] w fun e w' => ∃ v U, e = .returned v ∧ U.Perm (underW r.webs) ∧ U.Pairwise (fun a b => a.1 ≤ b.1) ∧ RunsAt w' v U ∧ New w w' := by
  have HR := hid h
  have hfw := h.few.1; have hcp := h.caps.1; have hw60 := h.few.2.1
  unfold maxLen at hcp
  have HLN := hid (fun k => underW_len r.webs k)
  have c0 := h.row.cellv 0 rfl; have cl := h.row.lt
  obtain ⟨i0, hi, hz0, hz1, hz2⟩ := info_parts info_run
  clear h
  go_enter Tryz.func52, Tryz.ntmps52
  go_wp2
  clear c0 cl
  go_loopw [13, 3] (fun x v wr => ∃ (k : Nat) (v1 : Value) (U : List (Int × Int)), x = .int .i64 k ∧ v1 = v ∧ k ≤ r.webs.length ∧ OwnR wr w.heap.size v U ∧ U.Perm (underW (r.webs.take k)) ∧ U.Pairwise (fun a b => a.1 ≤ b.1) ∧ New w wr) (fun x _ _ => r.webs.length - (intOf x).toNat)
  case atStart => exact ⟨0, _, [], rfl, rfl, by omega, World.ownsRow_nil _ _ _ _, List.Perm.refl _, List.Pairwise.nil, Mod.refl _ _⟩
  case round =>
    obtain ⟨k, v1, U, rfl, rfl, hk, ho, hpm, hpw, hn⟩ := hrel
    have HN := hid hn; have HPM := hid hpm; have HPW := hid hpw; have HO := hid ho
    have hUl : U.length ≤ 20 := by have h1 := hpm.length_eq; have h2 := HLN.out k; omega
    by_cases hlt : k < r.webs.length
    · obtain ⟨g0, g1, g2, g3, g4, g5⟩ := (HR.out.new hn).seed (List.getElem?_eq_getElem hlt)
      have gl := (HR.out.new hn).webs.lt
      have hnx := underW_next hlt
      obtain ⟨q1, q2, q3⟩ := HR.out.rng r.webs[k] (List.getElem_mem hlt)
      obtain ⟨s5, hs5⟩ : ∃ s5, s5 = r.webs[k] := ⟨_, rfl⟩
      rw [← hs5] at g0 g1 g2 g3 g4 g5 hnx q1 q2 q3
      have HNX := hid hnx
      clear ho hpm hpw hn hnx hs5
      by_cases hc : s5.cnt = 0
      · rw [hc] at g1
        have HC := hid hc
        clear hc q1 q2 q3
        go_wp2
        exact ⟨⟨k + 1, _, U, by simp, rfl, by omega, ownsZ_new HO.out ((Mod.refl _ _).alloc _), by rw [HNX.out, if_pos HC.out, List.append_nil]; exact HPM.out, HPW.out, HN.out.alloc _⟩, by simp [intOf]; omega⟩
      · have hcb : (s5.cnt == 0) = false := by rw [beq_eq_false_iff_ne]; exact hc
        have HC := hid hc
        clear hc
        obtain ⟨va, vc, hv⟩ : ∃ va vc, v1 = .slice va U.length vc := by
          obtain ⟨va, vc, e, -⟩ := HO.out.runs
          exact ⟨va, vc, e⟩
        subst hv
        go_wp2
        obtain ⟨w5, h5⟩ : ∃ w5, w5 = wr.alloc (.cells #[.int .i64 s5.frm, .int .i64 s5.cnt, .int .i64 s5.failed, .int .i64 s5.til, .int .i64 s5.bad, .bool s5.out] 98) := ⟨_, rfl⟩
        rw [← h5]
        have N35 : Hid (New wr w5) := hid (by rw [h5]; exact (Mod.refl _ _).alloc _)
        have X5 : Hid (Blk w5 wr.heap.size #[.int .i64 s5.frm, .int .i64 s5.cnt, .int .i64 s5.failed, .int .i64 s5.til, .int .i64 s5.bad, .bool s5.out] 98) := hid (by rw [h5]; exact Blk.new _ _ _)
        have O5 := hid (ownsZ_new HO.out N35.out)
        have N5 : Hid (New w w5) := hid (HN.out.trans N35.out)
        obtain ⟨X, hX⟩ : ∃ X, X = wr.heap.size := ⟨_, rfl⟩
        rw [← hX] at X5
        rw [← hX]
        clear h5 hX g0 g1 g2 g3 g4 g5 gl
        go_loopw [6] (fun x wr => ∃ i : Nat, x = .int .i64 i ∧ i ≤ U.length ∧ (∀ j y, i ≤ j → U[j]? = some y → s5.frm < y.1) ∧ New w5 wr) (fun x _ => (intOf x).toNat)
        case atStart => exact ⟨U.length, rfl, Nat.le_refl _, fun j y hj hy => (by rw [List.getElem?_eq_none hj] at hy; cases hy), Mod.refl _ _⟩
        case round =>
          obtain ⟨i, rfl, hi9, hgt, hn⟩ := hrel
          have HGT := hid hgt; have HN2 := hid hn
          have X6 := hid (New.blk hn X5.out)
          have x0 : wr.cell? ⟨X, 0, none⟩ = some (.int .i64 s5.frm) := X6.out.cellv 0 rfl
          have x1 : wr.cell? ⟨X, 1, none⟩ = some (.int .i64 s5.cnt) := X6.out.cellv 1 rfl
          have xl := X6.out.lt
          have O6 := hid (show OwnR wr w.heap.size (.slice va U.length vc) U from ownsZ_new O5.out hn)
          clear hgt hn
          by_cases h0 : i = 0
          · subst h0
            go_wp2_with fail
            refine wp_region_held_drew (S := (fun w' => w'.cell? ⟨X, 0, none⟩ = some (.int .i64 s5.frm))) (by kernel_rfl) x0 (fun hHeld => ?_)
            refine wpAnyH_take (i := 0) (v := ?_) (by simp only [List.getElem?_toArray, List.getElem?_cons_succ, List.getElem?_cons_zero]; rfl) (by kernel_rfl) (by kernel_rfl) (by kernel_rfl) (by intro _ _ _ h; exact h) (Or.inl ⟨by rfl, ?_⟩) (by assumption) ?_
            rotate_left
            · intro w hSw
              (try dsimp only at hSw)
              first | (go_simp; done) | (go_simp; with_reducible rfl) | with_reducible rfl
            simp only [Act.put, List.setIfInBounds_toArray, List.set_cons_zero, List.set_cons_succ]
            refine wpAnyH_take (i := 1) (v := ?_) (by simp only [List.getElem?_toArray, List.getElem?_cons_succ, List.getElem?_cons_zero]; rfl) (by kernel_rfl) (by kernel_rfl) (by kernel_rfl) (by intro _ _ _ h; exact h) (Or.inl ⟨by rfl, ?_⟩) (by assumption) ?_
            rotate_left
            · intro w hSw
              (try dsimp only at hSw)
              first | (go_simp; done) | (go_simp; with_reducible rfl) | with_reducible rfl
            simp only [Act.put, List.setIfInBounds_toArray, List.set_cons_zero, List.set_cons_succ]
            refine wpAnyH_take (i := 2) (v := ?_) (by simp only [List.getElem?_toArray, List.getElem?_cons_succ, List.getElem?_cons_zero]; rfl) (by kernel_rfl) (by kernel_rfl) (by kernel_rfl) (by intro _ _ _ h; exact h) (Or.inl ⟨by rfl, ?_⟩) (by assumption) ?_
            rotate_left
            · intro w hSw
              (try dsimp only at hSw)
              first | (go_simp; done) | (go_simp; with_reducible rfl) | with_reducible rfl
            simp only [Act.put, List.setIfInBounds_toArray, List.set_cons_zero, List.set_cons_succ]
            refine wpAnyH_take (i := 3) (v := undef) (by simp only [List.getElem?_toArray, List.getElem?_cons_succ, List.getElem?_cons_zero]; rfl) (by kernel_rfl) (by kernel_rfl) (by kernel_rfl) (by intro _ _ _ h; exact h) (Or.inr ⟨by kernel_rfl, rfl⟩) (by assumption) ?_
            simp only [Act.put, List.setIfInBounds_toArray, List.set_cons_zero, List.set_cons_succ]
            refine wpAnyH_take (i := 4) (v := undef) (by simp only [List.getElem?_toArray, List.getElem?_cons_succ, List.getElem?_cons_zero]; rfl) (by kernel_rfl) (by kernel_rfl) (by kernel_rfl) (by intro _ _ _ h; exact h) (Or.inr ⟨by kernel_rfl, rfl⟩) (by assumption) ?_
            simp only [Act.put, List.setIfInBounds_toArray, List.set_cons_zero, List.set_cons_succ]
            refine wpAnyH_take (i := 5) (v := undef) (by simp only [List.getElem?_toArray, List.getElem?_cons_succ, List.getElem?_cons_zero]; rfl) (by kernel_rfl) (by kernel_rfl) (by kernel_rfl) (by intro _ _ _ h; exact h) (Or.inr ⟨by kernel_rfl, rfl⟩) (by assumption) ?_
            simp only [Act.put, List.setIfInBounds_toArray, List.set_cons_zero, List.set_cons_succ]
            refine wpAnyH_take (i := 6) (v := undef) (by simp only [List.getElem?_toArray, List.getElem?_cons_succ, List.getElem?_cons_zero]; rfl) (by kernel_rfl) (by kernel_rfl) (by kernel_rfl) (by intro _ _ _ h; exact h) (Or.inr ⟨by kernel_rfl, rfl⟩) (by assumption) ?_
            simp only [Act.put, List.setIfInBounds_toArray, List.set_cons_zero, List.set_cons_succ]
            refine wpAnyH_take (i := 7) (v := undef) (by simp only [List.getElem?_toArray, List.getElem?_cons_succ, List.getElem?_cons_zero]; rfl) (by kernel_rfl) (by kernel_rfl) (by kernel_rfl) (by intro _ _ _ h; exact h) (Or.inr ⟨by kernel_rfl, rfl⟩) (by assumption) ?_
            simp only [Act.put, List.setIfInBounds_toArray, List.set_cons_zero, List.set_cons_succ]
            refine wpAnyH_take (i := 8) (v := undef) (by simp only [List.getElem?_toArray, List.getElem?_cons_succ, List.getElem?_cons_zero]; rfl) (by kernel_rfl) (by kernel_rfl) (by kernel_rfl) (by intro _ _ _ h; exact h) (Or.inr ⟨by kernel_rfl, rfl⟩) (by assumption) ?_
            simp only [Act.put, List.setIfInBounds_toArray, List.set_cons_zero, List.set_cons_succ]
            refine wpAnyH_take (i := 9) (v := undef) (by simp only [List.getElem?_toArray, List.getElem?_cons_succ, List.getElem?_cons_zero]; rfl) (by kernel_rfl) (by kernel_rfl) (by kernel_rfl) (by intro _ _ _ h; exact h) (Or.inr ⟨by kernel_rfl, rfl⟩) (by assumption) ?_
            simp only [Act.put, List.setIfInBounds_toArray, List.set_cons_zero, List.set_cons_succ]
            refine wpAnyH_take (i := 10) (v := undef) (by simp only [List.getElem?_toArray, List.getElem?_cons_succ, List.getElem?_cons_zero]; rfl) (by kernel_rfl) (by kernel_rfl) (by kernel_rfl) (by intro _ _ _ h; exact h) (Or.inr ⟨by kernel_rfl, rfl⟩) (by assumption) ?_
            simp only [Act.put, List.setIfInBounds_toArray, List.set_cons_zero, List.set_cons_succ]
            refine wpAnyH_take (i := 11) (v := undef) (by simp only [List.getElem?_toArray, List.getElem?_cons_succ, List.getElem?_cons_zero]; rfl) (by kernel_rfl) (by kernel_rfl) (by kernel_rfl) (by intro _ _ _ h; exact h) (Or.inr ⟨by kernel_rfl, rfl⟩) (by assumption) ?_
            simp only [Act.put, List.setIfInBounds_toArray, List.set_cons_zero, List.set_cons_succ]
            refine wpAnyH_take (i := 12) (v := undef) (by simp only [List.getElem?_toArray, List.getElem?_cons_succ, List.getElem?_cons_zero]; rfl) (by kernel_rfl) (by kernel_rfl) (by kernel_rfl) (by intro _ _ _ h; exact h) (Or.inr ⟨by kernel_rfl, rfl⟩) (by assumption) ?_
            simp only [Act.put, List.setIfInBounds_toArray, List.set_cons_zero, List.set_cons_succ]
            refine wpAnyH_take (i := 13) (v := ?_) (by simp only [List.getElem?_toArray, List.getElem?_cons_succ, List.getElem?_cons_zero]; rfl) (by kernel_rfl) (by kernel_rfl) (by kernel_rfl) (by intro _ _ _ h; exact h) (Or.inl ⟨by rfl, ?_⟩) (by assumption) ?_
            rotate_left
            · intro w hSw
              (try dsimp only at hSw)
              first | (go_simp; done) | (go_simp; with_reducible rfl) | with_reducible rfl
            simp only [Act.put, List.setIfInBounds_toArray, List.set_cons_zero, List.set_cons_succ]
            refine wpAnyH_done (by kernel_rfl) ?_ _
            have hins := hid (ins_ok (x := (s5.frm, s5.cnt)) HPW.out hi9 HGT.out (fun j y hj _ => by omega))
            have N9 : Hid (New w wr.drew) := hid ((N5.out.trans HN2.out).drew)
            obtain ⟨B0, hB0⟩ : ∃ B0, B0 = wr.heap.size := ⟨_, rfl⟩
            have HB0 := hid hB0
            have hwB : w.heap.size ≤ B0 := by rw [hB0]; exact N9.out.size
            clear hB0
            rcases O6.out.2 with ⟨hv, hz⟩ | ⟨g, cap, cur, hv, hbg, hg, hcap1, hcap2, -⟩
            · injection hv with e1 e2 e3
              subst e1
              subst e3
              obtain rfl : U = [] := List.eq_nil_of_length_eq_zero hz
              clear hz e2
              go_wp2_with (first | (at_builtin; refine wpList_append_own_none rfl _ _ 38 rfl B0 34 i0 2 Tryz.underlying38 hi (.slice none 0 0) 0 [] rfl (World.ownsRow_nil _ _ _ _) rfl ?_) | (at_builtin; go_loud (refine wpList_append_own_at _ rfl _ _ 38 rfl B0 34 i0 _ 2 16 Tryz.underlying38 hi hz0 hz1 hz2 rfl (by decide) (.slice none 0 0) 0 [] rfl ?owB ⟨wr.heap.size, 0, none⟩ 1 1 (runCells (s5.frm, s5.cnt)) rfl ?hlB ?hnB ?h1B ?h63B ?hbyB ?hbaB ?_)) | fail)
              case owB => exact World.ownsRow_nil _ _ _ _
              case hlB => rfl
              case hnB => first | exact fun j u hj => hj | exact two_newU _ _ _ _ rfl
              case h1B => first | exact cells_one _ | (intro u hu; simp [runCells] at hu; rcases hu with rfl | rfl <;> rfl)
              case h63B => unfold maxLen; omega
              case hbyB => omega
              case hbaB => first | (have := HB0.out; simp; omega) | (have := HB0.out; have := N1.out.size; simp at this ⊢; omega)
              intro o2 w2 r2 g2 hne2 hob2
              have N2 : Hid (New w w2) := hid (newGrown (N9.out.alloc _) g2 (fun q hq => by cases hq))
              have R2 : Hid (OwnR w2 B0 o2 [(s5.frm, s5.cnt)]) := hid (by
                have := r2
                simpa [OwnR, runRow] using this)
              obtain ⟨sa, sc, rfl⟩ : ∃ sa sc, o2 = .slice sa 1 sc := by
                obtain ⟨sa, sc, e, -⟩ := R2.out.runs
                exact ⟨sa, sc, e⟩
              clear r2 g2 hne2 hob2
              go_wp2_with (first | (at_builtin; refine wpList_append_own_none rfl _ _ 38 rfl B0 34 i0 2 Tryz.underlying38 hi (.slice sa 1 sc) 1 (runRow [(s5.frm, s5.cnt)]) rfl R2.out rfl ?_) | fail)
              exact ⟨⟨k + 1, _, [(s5.frm, s5.cnt)], by simp, rfl, by omega, R2.out.base hwB, by rw [HNX.out, if_neg HC.out]; have := HPM.out.length_eq; rw [List.eq_nil_of_length_eq_zero this.symm]; exact List.Perm.refl _, List.pairwise_singleton _ _, N2.out⟩, by simp [intOf]; omega⟩
            · injection hv with e1 e2 e3
              subst e1
              subst e3
              have HGG := hid (Array.getElem?_eq_some_iff.1 hg).1
              clear hg
              obtain ⟨i, hiI⟩ : ∃ i : Nat, i = 0 := ⟨_, rfl⟩
              rw [show ((0 : Nat) : Int) = (i : Int) by subst hiI; simp]
              rw [← hiI] at hins hi9
              obtain ⟨V1, hV1⟩ : ∃ V1, V1 = U.take i := ⟨_, rfl⟩
              obtain ⟨V2, hV2⟩ : ∃ V2, V2 = U.drop i := ⟨_, rfl⟩
              rw [← hV1, ← hV2] at hins
              have hl1 : V1.length = i := by rw [hV1, List.length_take]; omega
              have hl2 : V2.length = U.length - i := by rw [hV2, List.length_drop]
              have HL1 := hid hl1; have HL2 := hid hl2
              have hgB : g < B0 := by rw [HB0.out]; exact HGG.out
              have OD := hid (show OwnR wr.drew w.heap.size (.slice (some ⟨g, 0, none⟩) U.length vc) U from ownsZ_new O6.out (Mod.refl _ _).drew)
              have HMB := hid (HB0.out)
              have X7 := hid (X6.out.drew)
              have HPA : Hid (∀ (j : Nat) (u : Value), (runRow V1)[j]? = some u → wr.drew.cell? ((⟨g, 0, none⟩ : Addr).add j) = some u) := hid (by
                have := OD.out.part 0 V1 (fun j y hy => by rw [hV1, List.getElem?_take] at hy; split at hy; rw [Nat.zero_add]; exact hy; cases hy)
                rwa [Nat.zero_mul] at this)
              have HV2 : Hid (∀ (j : Nat) y, V2[j]? = some y → U[i + j]? = some y) := hid (fun j y hy => by rw [hV2, List.getElem?_drop] at hy; exact hy)
              clear hV1 hV2 hl1 hl2 hiI
              go_wp2_with (first | (at_builtin; go_loud (refine wpList_append_own_at _ rfl _ _ 38 rfl B0 34 i0 _ 2 16 Tryz.underlying38 hi hz0 hz1 hz2 rfl (by decide) (.slice none 0 0) 0 [] rfl ?owA ⟨g, 0, none⟩ i vc (runRow V1) rfl ?hlA ?hnA ?h1A ?h63A ?hbyA ?hbaA ?_)) | fail)
              case owA => exact World.ownsRow_nil _ _ _ _
              case hlA => rw [runRow_len, HL1.out]
              case hnA => exact fun j u hj => by have := HPA.out j u hj; first | exact this | (rw [addN, Nat.zero_add] at this; exact this)
              case h1A => exact cells_one _
              case h63A => unfold maxLen; omega
              case hbyA => omega
              case hbaA => have := HB0.out; simp; omega
              intro o1 w1 r1 g1 hne1 hob1
              have NN1 : New wr.drew w1 := newGrown (Mod.refl _ _) g1 (fun q hq => by cases hq)
              have N1 : Hid (New w w1) := hid (N9.out.trans NN1)
              have O1 := hid (OD.out.keep g1 (by simp [Value.ownBlock]))
              have R1 : Hid (w1.ownsRow B0 34 2 o1 i (runRow V1)) := hid (by simpa using r1)
              have X8 := hid (New.blk NN1 X7.out)
              have x0 : w1.cell? ⟨X, 0, none⟩ = some (.int .i64 s5.frm) := X8.out.cellv 0 rfl
              have x1 : w1.cell? ⟨X, 1, none⟩ = some (.int .i64 s5.cnt) := X8.out.cellv 1 rfl
              have xl := X8.out.lt
              obtain ⟨sa, sc, rfl⟩ : ∃ sa sc, o1 = .slice sa i sc := by
                rcases R1.out.2 with ⟨e, hz⟩ | ⟨g9, cap9, cur9, e, -⟩
                · exact ⟨none, 0, by rw [e, hz]⟩
                · exact ⟨_, _, e⟩
              have hgo1 := hid (show some g ≠ (Value.slice sa i sc).ownBlock from fun e => by have := (World.ownsRow.lt R1.out g e.symm).1; omega)
              have hB1 : B0 ≤ w1.heap.size := by have := NN1.size; have h2 := HB0.out; simp at this; omega
              clear r1 g1 hne1 hob1 NN1
              go_wp2_with (first | (at_builtin; go_loud (refine wpList_append_own_at _ rfl _ _ 38 rfl B0 34 i0 _ 2 16 Tryz.underlying38 hi hz0 hz1 hz2 rfl (by decide) (.slice sa i sc) i (runRow V1) rfl ?owB ⟨w1.heap.size, 0, none⟩ 1 1 (runCells (s5.frm, s5.cnt)) rfl ?hlB ?hnB ?h1B ?h63B ?hbyB ?hbaB ?_)) | fail)
              case owB => exact ownsZ_new R1.out ((Mod.refl _ _).alloc _)
              case hlB => rfl
              case hnB => first | exact fun j u hj => hj | exact two_newU _ _ _ _ rfl
              case h1B => intro u hu; simp [runCells] at hu; rcases hu with rfl | rfl <;> rfl
              case h63B => unfold maxLen; omega
              case hbyB => omega
              case hbaB => simp; omega
              intro o2 w2 r2 g2 hne2 hob2
              have N2 : Hid (New w w2) := hid (newGrown (N1.out.trans ((Mod.refl _ _).alloc _)) g2 (fun q hq => by have := (World.ownsRow.lt R1.out q hq).1; omega))
              have O2 : Hid (OwnR w2 w.heap.size (.slice (some ⟨g, 0, none⟩) U.length vc) U) := hid (OwnR.keep (ownsZ_new O1.out ((Mod.refl _ _).alloc _)) g2 hgo1.out)
              have R2 : Hid (w2.ownsRow B0 34 2 o2 (i + 1) (runRow V1 ++ runCells (s5.frm, s5.cnt))) := hid r2
              obtain ⟨sb, sd, rfl⟩ : ∃ sb sd, o2 = .slice sb (i + 1) sd := by
                rcases R2.out.2 with ⟨e, hz⟩ | ⟨g9, cap9, cur9, e, -⟩
                · exact absurd hz (by simp)
                · exact ⟨_, _, e⟩
              have hgo2 := hid (show some g ≠ (Value.slice sb (i + 1) sd).ownBlock from fun e => by have := (World.ownsRow.lt R2.out g e.symm).1; omega)
              have hB2 : B0 ≤ w2.heap.size := by have := g2.size; simp at this; omega
              clear r2 g2 hne2 hob2 x0 x1 xl
              have HPC : Hid (∀ (j : Nat) (u : Value), (runRow V2)[j]? = some u → w2.cell? ((⟨g, i * 2, none⟩ : Addr).add j) = some u) := hid (O2.out.part i V2 HV2.out)
              by_cases hvi : vc = i
              · have hvi2 := hvi.symm
                subst hvi2
                clear hvi
                have hV0 : V2 = [] := List.eq_nil_of_length_eq_zero (by have := HL2.out; omega)
                have HV0 := hid hV0
                clear hV0
                have hUi : U.length - i = 0 := by omega
                have HUI := hid hUi
                clear hUi
                go_wp2_with (first | (at_builtin; go_loud (refine wpList_append_own_at _ rfl _ _ 38 rfl B0 34 i0 _ 2 16 Tryz.underlying38 hi hz0 hz1 hz2 rfl (by decide) (.slice sb (i + 1) sd) (i + 1) (runRow V1 ++ runCells (s5.frm, s5.cnt)) rfl ?owC ⟨g, 0, none⟩ 0 0 (runRow V2) rfl ?hlC ?hnC ?h1C ?h63C ?hbyC ?hbaC ?_)) | fail)
                case owC => exact R2.out
                case hlC => (rw [HV0.out]; rfl)
                case hnC => exact (fun j u hj => by rw [HV0.out] at hj; simp [runRow] at hj)
                case h1C => exact cells_one _
                case h63C => unfold maxLen; omega
                case hbyC => omega
                case hbaC => omega
                intro o3 w3 r3 g3 hne3 hob3
                have N3 : Hid (New w w3) := hid (newGrown N2.out g3 (fun q hq => by have := (World.ownsRow.lt R2.out q hq).1; omega))
                have R3 : Hid (OwnR w3 B0 o3 (V1 ++ (s5.frm, s5.cnt) :: V2)) := hid (by
                  unfold OwnR
                  rw [runRow_app, show runRow ((s5.frm, s5.cnt) :: V2) = runCells (s5.frm, s5.cnt) ++ runRow V2 from rfl, ← List.append_assoc, List.length_append, List.length_cons, HL1.out, HL2.out, show i + (U.length - i + 1) = i + 1 + (U.length - i) by omega]
                  first | exact r3 | (rw [List.append_assoc]; exact r3) | (rw [HUI.out]; exact r3) | (rw [HUI.out, List.append_assoc]; exact r3))
                clear r3 g3 hne3 hob3
                go_wp2
                exact ⟨⟨k + 1, _, V1 ++ (s5.frm, s5.cnt) :: V2, by simp, rfl, by omega, R3.out.base hwB, by rw [HNX.out, if_neg HC.out]; exact hins.out.2.trans ((List.Perm.cons _ HPM.out).trans (List.perm_append_comm (l₁ := [(s5.frm, s5.cnt)]))), hins.out.1, N3.out⟩, by simp [intOf]; omega⟩
              · go_wp2_with (first | (at_builtin; go_loud (refine wpList_append_own_at _ rfl _ _ 38 rfl B0 34 i0 _ 2 16 Tryz.underlying38 hi hz0 hz1 hz2 rfl (by decide) (.slice sb (i + 1) sd) (i + 1) (runRow V1 ++ runCells (s5.frm, s5.cnt)) rfl ?owC ⟨g, i * 2, none⟩ (U.length - i) (vc - i) (runRow V2) rfl ?hlC ?hnC ?h1C ?h63C ?hbyC ?hbaC ?_)) | fail)
                case owC => exact R2.out
                case hlC => (rw [runRow_len, HL2.out])
                case hnC => exact HPC.out
                case h1C => exact cells_one _
                case h63C => unfold maxLen; omega
                case hbyC => omega
                case hbaC => omega
                intro o3 w3 r3 g3 hne3 hob3
                have N3 : Hid (New w w3) := hid (newGrown N2.out g3 (fun q hq => by have := (World.ownsRow.lt R2.out q hq).1; omega))
                have R3 : Hid (OwnR w3 B0 o3 (V1 ++ (s5.frm, s5.cnt) :: V2)) := hid (by
                  unfold OwnR
                  rw [runRow_app, show runRow ((s5.frm, s5.cnt) :: V2) = runCells (s5.frm, s5.cnt) ++ runRow V2 from rfl, ← List.append_assoc, List.length_append, List.length_cons, HL1.out, HL2.out, show i + (U.length - i + 1) = i + 1 + (U.length - i) by omega]
                  first | exact r3 | (rw [List.append_assoc]; exact r3) | (rw [HUI.out]; exact r3) | (rw [HUI.out, List.append_assoc]; exact r3))
                clear r3 g3 hne3 hob3
                go_wp2
                exact ⟨⟨k + 1, _, V1 ++ (s5.frm, s5.cnt) :: V2, by simp, rfl, by omega, R3.out.base hwB, by rw [HNX.out, if_neg HC.out]; exact hins.out.2.trans ((List.Perm.cons _ HPM.out).trans (List.perm_append_comm (l₁ := [(s5.frm, s5.cnt)]))), hins.out.1, N3.out⟩, by simp [intOf]; omega⟩
          · obtain ⟨j3, rfl⟩ : ∃ j3, i = j3 + 1 := ⟨i - 1, by omega⟩
            rcases O6.out.2 with ⟨hv, hz⟩ | ⟨g, cap, cur, hv, hbg, hg, hcap1, hcap2, -⟩
            · omega
            injection hv with e1 e2 e3
            subst e1
            subst e3
            have hj20 : j3 ≤ 20 := by omega
            have hjU : (j3 : Int) < (U.length : Int) := by omega
            have hwj : IntKind.i64.wrap (j3 : Int) = (j3 : Int) := by rw [IntKind.wrap_i64]; omega
            obtain ⟨y, hy⟩ : ∃ y, U[j3]? = some y := ⟨_, List.getElem?_eq_getElem (by omega)⟩
            have hg0 : wr.cell? ⟨g, j3 * 2, none⟩ = some (.int .i64 y.1) := by
              have h2 := World.ownsRow.cells (g := g) O6.out rfl (j3 * 2 + 0) (.int .i64 y.1) (by rw [runRow_at hy (by omega)]; rfl)
              rw [addN] at h2
              simpa using h2
            have hgl : g < wr.heap.size := (Array.getElem?_eq_some_iff.1 hg).1
            have HY := hid hy
            have HGG := hid hgl
            clear hg hy
            by_cases hcmp : s5.frm < y.1
            · go_wp2_with fail
              refine wp_region_held_drew (S := (fun w' => w'.cell? ⟨X, 0, none⟩ = some (.int .i64 s5.frm) ∧ w'.cell? ⟨g, j3 * 2, none⟩ = some (.int .i64 y.1))) (by kernel_rfl) ⟨x0, hg0⟩ (fun hHeld => ?_)
              refine wpAnyH_take (i := 0) (v := ?_) (by simp only [List.getElem?_toArray, List.getElem?_cons_succ, List.getElem?_cons_zero]; rfl) (by kernel_rfl) (by kernel_rfl) (by kernel_rfl) (by intro _ _ _ h; exact h) (Or.inl ⟨by rfl, ?_⟩) (by assumption) ?_
              rotate_left
              · intro w hSw
                (try dsimp only at hSw)
                first | (go_simp; done) | (go_simp; with_reducible rfl) | with_reducible rfl
              simp only [Act.put, List.setIfInBounds_toArray, List.set_cons_zero, List.set_cons_succ]
              refine wpAnyH_take (i := 1) (v := ?_) (by simp only [List.getElem?_toArray, List.getElem?_cons_succ, List.getElem?_cons_zero]; rfl) (by kernel_rfl) (by kernel_rfl) (by kernel_rfl) (by intro _ _ _ h; exact h) (Or.inl ⟨by rfl, ?_⟩) (by assumption) ?_
              rotate_left
              · intro w hSw
                (try dsimp only at hSw)
                first | (go_simp; done) | (go_simp; with_reducible rfl) | with_reducible rfl
              simp only [Act.put, List.setIfInBounds_toArray, List.set_cons_zero, List.set_cons_succ]
              refine wpAnyH_take (i := 2) (v := ?_) (by simp only [List.getElem?_toArray, List.getElem?_cons_succ, List.getElem?_cons_zero]; rfl) (by kernel_rfl) (by kernel_rfl) (by kernel_rfl) (by intro _ _ _ h; exact h) (Or.inl ⟨by rfl, ?_⟩) (by assumption) ?_
              rotate_left
              · intro w hSw
                (try dsimp only at hSw)
                first | (go_simp; done) | (go_simp; with_reducible rfl) | with_reducible rfl
              simp only [Act.put, List.setIfInBounds_toArray, List.set_cons_zero, List.set_cons_succ]
              refine wpAnyH_take (i := 3) (v := ?_) (by simp only [List.getElem?_toArray, List.getElem?_cons_succ, List.getElem?_cons_zero]; rfl) (by kernel_rfl) (by kernel_rfl) (by kernel_rfl) (by intro _ _ _ h; exact h) (Or.inl ⟨by rfl, ?_⟩) (by assumption) ?_
              rotate_left
              · intro w hSw
                (try dsimp only at hSw)
                first | (go_simp; done) | (go_simp; with_reducible rfl) | with_reducible rfl
              simp only [Act.put, List.setIfInBounds_toArray, List.set_cons_zero, List.set_cons_succ]
              refine wpAnyH_take (i := 4) (v := ?_) (by simp only [List.getElem?_toArray, List.getElem?_cons_succ, List.getElem?_cons_zero]; rfl) (by kernel_rfl) (by kernel_rfl) (by kernel_rfl) (by intro _ _ _ h; exact h) (Or.inl ⟨by rfl, ?_⟩) (by assumption) ?_
              rotate_left
              · intro w hSw
                (try dsimp only at hSw)
                first | (go_simp; done) | (go_simp; with_reducible rfl) | with_reducible rfl
              simp only [Act.put, List.setIfInBounds_toArray, List.set_cons_zero, List.set_cons_succ]
              refine wpAnyH_take (i := 5) (v := ?_) (by simp only [List.getElem?_toArray, List.getElem?_cons_succ, List.getElem?_cons_zero]; rfl) (by kernel_rfl) (by kernel_rfl) (by kernel_rfl) (by intro _ _ _ h; exact h) (Or.inl ⟨by rfl, ?_⟩) (by assumption) ?_
              rotate_left
              · intro w hSw
                (try dsimp only at hSw)
                first | (go_simp; done) | (go_simp; with_reducible rfl) | with_reducible rfl
              simp only [Act.put, List.setIfInBounds_toArray, List.set_cons_zero, List.set_cons_succ]
              refine wpAnyH_take (i := 6) (v := ?_) (by simp only [List.getElem?_toArray, List.getElem?_cons_succ, List.getElem?_cons_zero]; rfl) (by kernel_rfl) (by kernel_rfl) (by kernel_rfl) (by intro _ _ _ h; exact h) (Or.inl ⟨by rfl, ?_⟩) (by assumption) ?_
              rotate_left
              · intro w hSw
                (try dsimp only at hSw)
                first | (go_simp; done) | (go_simp; with_reducible rfl) | with_reducible rfl
              simp only [Act.put, List.setIfInBounds_toArray, List.set_cons_zero, List.set_cons_succ]
              refine wpAnyH_take (i := 7) (v := ?_) (by simp only [List.getElem?_toArray, List.getElem?_cons_succ, List.getElem?_cons_zero]; rfl) (by kernel_rfl) (by kernel_rfl) (by kernel_rfl) (by intro _ _ _ h; exact h) (Or.inl ⟨by rfl, ?_⟩) (by assumption) ?_
              rotate_left
              · intro w hSw
                (try dsimp only at hSw)
                first | (go_simp; done) | (go_simp; with_reducible rfl) | with_reducible rfl
              simp only [Act.put, List.setIfInBounds_toArray, List.set_cons_zero, List.set_cons_succ]
              refine wpAnyH_take (i := 8) (v := ?_) (by simp only [List.getElem?_toArray, List.getElem?_cons_succ, List.getElem?_cons_zero]; rfl) (by kernel_rfl) (by kernel_rfl) (by kernel_rfl) (by intro _ _ _ h; exact h) (Or.inl ⟨by rfl, ?_⟩) (by assumption) ?_
              rotate_left
              · intro w hSw
                (try dsimp only at hSw)
                first | (go_simp; done) | (go_simp; with_reducible rfl) | with_reducible rfl
              simp only [Act.put, List.setIfInBounds_toArray, List.set_cons_zero, List.set_cons_succ]
              refine wpAnyH_take (i := 9) (v := ?_) (by simp only [List.getElem?_toArray, List.getElem?_cons_succ, List.getElem?_cons_zero]; rfl) (by kernel_rfl) (by kernel_rfl) (by kernel_rfl) (by intro _ _ _ h; exact h) (Or.inl ⟨by rfl, ?_⟩) (by assumption) ?_
              rotate_left
              · intro w hSw
                (try dsimp only at hSw)
                first | (go_simp; done) | (go_simp; with_reducible rfl) | with_reducible rfl
              simp only [Act.put, List.setIfInBounds_toArray, List.set_cons_zero, List.set_cons_succ]
              refine wpAnyH_take (i := 10) (v := ?_) (by simp only [List.getElem?_toArray, List.getElem?_cons_succ, List.getElem?_cons_zero]; rfl) (by kernel_rfl) (by kernel_rfl) (by kernel_rfl) (by intro _ _ _ h; exact h) (Or.inl ⟨by rfl, ?_⟩) (by assumption) ?_
              rotate_left
              · intro w hSw
                (try dsimp only at hSw)
                first | (go_simp; done) | (go_simp; with_reducible rfl) | with_reducible rfl
              simp only [Act.put, List.setIfInBounds_toArray, List.set_cons_zero, List.set_cons_succ]
              refine wpAnyH_take (i := 11) (v := ?_) (by simp only [List.getElem?_toArray, List.getElem?_cons_succ, List.getElem?_cons_zero]; rfl) (by kernel_rfl) (by kernel_rfl) (by kernel_rfl) (by intro _ _ _ h; exact h) (Or.inl ⟨by rfl, ?_⟩) (by assumption) ?_
              rotate_left
              · intro w hSw
                (try dsimp only at hSw)
                first | (go_simp; done) | (go_simp; with_reducible rfl) | with_reducible rfl
              simp only [Act.put, List.setIfInBounds_toArray, List.set_cons_zero, List.set_cons_succ]
              refine wpAnyH_take (i := 12) (v := ?_) (by simp only [List.getElem?_toArray, List.getElem?_cons_succ, List.getElem?_cons_zero]; rfl) (by kernel_rfl) (by kernel_rfl) (by kernel_rfl) (by intro _ _ _ h; exact h) (Or.inl ⟨by rfl, ?_⟩) (by assumption) ?_
              rotate_left
              · intro w hSw
                (try dsimp only at hSw)
                first | (go_simp; done) | (go_simp; with_reducible rfl) | with_reducible rfl
              simp only [Act.put, List.setIfInBounds_toArray, List.set_cons_zero, List.set_cons_succ]
              refine wpAnyH_take (i := 13) (v := ?_) (by simp only [List.getElem?_toArray, List.getElem?_cons_succ, List.getElem?_cons_zero]; rfl) (by kernel_rfl) (by kernel_rfl) (by kernel_rfl) (by intro _ _ _ h; exact h) (Or.inl ⟨by rfl, ?_⟩) (by assumption) ?_
              rotate_left
              · intro w hSw
                (try dsimp only at hSw)
                first | (go_simp; done) | (go_simp; with_reducible rfl) | with_reducible rfl
              simp only [Act.put, List.setIfInBounds_toArray, List.set_cons_zero, List.set_cons_succ]
              refine wpAnyH_done (by kernel_rfl) ?_ _
              go_wp2
              refine ⟨⟨j3, by simp, by omega, fun j z hj hz => ?_, HN2.out.drew⟩, by simp [intOf]⟩
              by_cases e : j = j3
              · subst e; rw [HY.out] at hz; cases hz; exact hcmp
              · exact HGT.out j z (by omega) hz
            · go_wp2_with fail
              refine wp_region_held_drew (S := (fun w' => w'.cell? ⟨X, 0, none⟩ = some (.int .i64 s5.frm) ∧ w'.cell? ⟨g, j3 * 2, none⟩ = some (.int .i64 y.1))) (by kernel_rfl) ⟨x0, hg0⟩ (fun hHeld => ?_)
              refine wpAnyH_take (i := 0) (v := ?_) (by simp only [List.getElem?_toArray, List.getElem?_cons_succ, List.getElem?_cons_zero]; rfl) (by kernel_rfl) (by kernel_rfl) (by kernel_rfl) (by intro _ _ _ h; exact h) (Or.inl ⟨by rfl, ?_⟩) (by assumption) ?_
              rotate_left
              · intro w hSw
                (try dsimp only at hSw)
                first | (go_simp; done) | (go_simp; with_reducible rfl) | with_reducible rfl
              simp only [Act.put, List.setIfInBounds_toArray, List.set_cons_zero, List.set_cons_succ]
              refine wpAnyH_take (i := 1) (v := ?_) (by simp only [List.getElem?_toArray, List.getElem?_cons_succ, List.getElem?_cons_zero]; rfl) (by kernel_rfl) (by kernel_rfl) (by kernel_rfl) (by intro _ _ _ h; exact h) (Or.inl ⟨by rfl, ?_⟩) (by assumption) ?_
              rotate_left
              · intro w hSw
                (try dsimp only at hSw)
                first | (go_simp; done) | (go_simp; with_reducible rfl) | with_reducible rfl
              simp only [Act.put, List.setIfInBounds_toArray, List.set_cons_zero, List.set_cons_succ]
              refine wpAnyH_take (i := 2) (v := ?_) (by simp only [List.getElem?_toArray, List.getElem?_cons_succ, List.getElem?_cons_zero]; rfl) (by kernel_rfl) (by kernel_rfl) (by kernel_rfl) (by intro _ _ _ h; exact h) (Or.inl ⟨by rfl, ?_⟩) (by assumption) ?_
              rotate_left
              · intro w hSw
                (try dsimp only at hSw)
                first | (go_simp; done) | (go_simp; with_reducible rfl) | with_reducible rfl
              simp only [Act.put, List.setIfInBounds_toArray, List.set_cons_zero, List.set_cons_succ]
              refine wpAnyH_take (i := 3) (v := ?_) (by simp only [List.getElem?_toArray, List.getElem?_cons_succ, List.getElem?_cons_zero]; rfl) (by kernel_rfl) (by kernel_rfl) (by kernel_rfl) (by intro _ _ _ h; exact h) (Or.inl ⟨by rfl, ?_⟩) (by assumption) ?_
              rotate_left
              · intro w hSw
                (try dsimp only at hSw)
                first | (go_simp; done) | (go_simp; with_reducible rfl) | with_reducible rfl
              simp only [Act.put, List.setIfInBounds_toArray, List.set_cons_zero, List.set_cons_succ]
              refine wpAnyH_take (i := 4) (v := ?_) (by simp only [List.getElem?_toArray, List.getElem?_cons_succ, List.getElem?_cons_zero]; rfl) (by kernel_rfl) (by kernel_rfl) (by kernel_rfl) (by intro _ _ _ h; exact h) (Or.inl ⟨by rfl, ?_⟩) (by assumption) ?_
              rotate_left
              · intro w hSw
                (try dsimp only at hSw)
                first | (go_simp; done) | (go_simp; with_reducible rfl) | with_reducible rfl
              simp only [Act.put, List.setIfInBounds_toArray, List.set_cons_zero, List.set_cons_succ]
              refine wpAnyH_take (i := 5) (v := ?_) (by simp only [List.getElem?_toArray, List.getElem?_cons_succ, List.getElem?_cons_zero]; rfl) (by kernel_rfl) (by kernel_rfl) (by kernel_rfl) (by intro _ _ _ h; exact h) (Or.inl ⟨by rfl, ?_⟩) (by assumption) ?_
              rotate_left
              · intro w hSw
                (try dsimp only at hSw)
                first | (go_simp; done) | (go_simp; with_reducible rfl) | with_reducible rfl
              simp only [Act.put, List.setIfInBounds_toArray, List.set_cons_zero, List.set_cons_succ]
              refine wpAnyH_take (i := 6) (v := ?_) (by simp only [List.getElem?_toArray, List.getElem?_cons_succ, List.getElem?_cons_zero]; rfl) (by kernel_rfl) (by kernel_rfl) (by kernel_rfl) (by intro _ _ _ h; exact h) (Or.inl ⟨by rfl, ?_⟩) (by assumption) ?_
              rotate_left
              · intro w hSw
                (try dsimp only at hSw)
                first | (go_simp; done) | (go_simp; with_reducible rfl) | with_reducible rfl
              simp only [Act.put, List.setIfInBounds_toArray, List.set_cons_zero, List.set_cons_succ]
              refine wpAnyH_take (i := 7) (v := ?_) (by simp only [List.getElem?_toArray, List.getElem?_cons_succ, List.getElem?_cons_zero]; rfl) (by kernel_rfl) (by kernel_rfl) (by kernel_rfl) (by intro _ _ _ h; exact h) (Or.inl ⟨by rfl, ?_⟩) (by assumption) ?_
              rotate_left
              · intro w hSw
                (try dsimp only at hSw)
                first | (go_simp; done) | (go_simp; with_reducible rfl) | with_reducible rfl
              simp only [Act.put, List.setIfInBounds_toArray, List.set_cons_zero, List.set_cons_succ]
              refine wpAnyH_take (i := 8) (v := ?_) (by simp only [List.getElem?_toArray, List.getElem?_cons_succ, List.getElem?_cons_zero]; rfl) (by kernel_rfl) (by kernel_rfl) (by kernel_rfl) (by intro _ _ _ h; exact h) (Or.inl ⟨by rfl, ?_⟩) (by assumption) ?_
              rotate_left
              · intro w hSw
                (try dsimp only at hSw)
                first | (go_simp; done) | (go_simp; with_reducible rfl) | with_reducible rfl
              simp only [Act.put, List.setIfInBounds_toArray, List.set_cons_zero, List.set_cons_succ]
              refine wpAnyH_take (i := 9) (v := ?_) (by simp only [List.getElem?_toArray, List.getElem?_cons_succ, List.getElem?_cons_zero]; rfl) (by kernel_rfl) (by kernel_rfl) (by kernel_rfl) (by intro _ _ _ h; exact h) (Or.inl ⟨by rfl, ?_⟩) (by assumption) ?_
              rotate_left
              · intro w hSw
                (try dsimp only at hSw)
                first | (go_simp; done) | (go_simp; with_reducible rfl) | with_reducible rfl
              simp only [Act.put, List.setIfInBounds_toArray, List.set_cons_zero, List.set_cons_succ]
              refine wpAnyH_take (i := 10) (v := ?_) (by simp only [List.getElem?_toArray, List.getElem?_cons_succ, List.getElem?_cons_zero]; rfl) (by kernel_rfl) (by kernel_rfl) (by kernel_rfl) (by intro _ _ _ h; exact h) (Or.inl ⟨by rfl, ?_⟩) (by assumption) ?_
              rotate_left
              · intro w hSw
                (try dsimp only at hSw)
                first | (go_simp; done) | (go_simp; with_reducible rfl) | with_reducible rfl
              simp only [Act.put, List.setIfInBounds_toArray, List.set_cons_zero, List.set_cons_succ]
              refine wpAnyH_take (i := 11) (v := ?_) (by simp only [List.getElem?_toArray, List.getElem?_cons_succ, List.getElem?_cons_zero]; rfl) (by kernel_rfl) (by kernel_rfl) (by kernel_rfl) (by intro _ _ _ h; exact h) (Or.inl ⟨by rfl, ?_⟩) (by assumption) ?_
              rotate_left
              · intro w hSw
                (try dsimp only at hSw)
                first | (go_simp; done) | (go_simp; with_reducible rfl) | with_reducible rfl
              simp only [Act.put, List.setIfInBounds_toArray, List.set_cons_zero, List.set_cons_succ]
              refine wpAnyH_take (i := 12) (v := ?_) (by simp only [List.getElem?_toArray, List.getElem?_cons_succ, List.getElem?_cons_zero]; rfl) (by kernel_rfl) (by kernel_rfl) (by kernel_rfl) (by intro _ _ _ h; exact h) (Or.inl ⟨by rfl, ?_⟩) (by assumption) ?_
              rotate_left
              · intro w hSw
                (try dsimp only at hSw)
                first | (go_simp; done) | (go_simp; with_reducible rfl) | with_reducible rfl
              simp only [Act.put, List.setIfInBounds_toArray, List.set_cons_zero, List.set_cons_succ]
              refine wpAnyH_take (i := 13) (v := ?_) (by simp only [List.getElem?_toArray, List.getElem?_cons_succ, List.getElem?_cons_zero]; rfl) (by kernel_rfl) (by kernel_rfl) (by kernel_rfl) (by intro _ _ _ h; exact h) (Or.inl ⟨by rfl, ?_⟩) (by assumption) ?_
              rotate_left
              · intro w hSw
                (try dsimp only at hSw)
                first | (go_simp; done) | (go_simp; with_reducible rfl) | with_reducible rfl
              simp only [Act.put, List.setIfInBounds_toArray, List.set_cons_zero, List.set_cons_succ]
              refine wpAnyH_done (by kernel_rfl) ?_ _
              have hins := hid (ins_ok (x := (s5.frm, s5.cnt)) HPW.out hi9 HGT.out (ins_h2 HY.out (by simp only; omega)))
              have N9 : Hid (New w wr.drew) := hid ((N5.out.trans HN2.out).drew)
              obtain ⟨B0, hB0⟩ : ∃ B0, B0 = wr.heap.size := ⟨_, rfl⟩
              have HB0 := hid hB0
              have hwB : w.heap.size ≤ B0 := by rw [hB0]; exact N9.out.size
              clear hB0
              obtain ⟨i, hiI⟩ : ∃ i : Nat, i = (j3 + 1) := ⟨_, rfl⟩
              rw [show ((j3 : Int) + 1) = (i : Int) by subst hiI; simp]
              rw [← hiI] at hins hi9
              obtain ⟨V1, hV1⟩ : ∃ V1, V1 = U.take i := ⟨_, rfl⟩
              obtain ⟨V2, hV2⟩ : ∃ V2, V2 = U.drop i := ⟨_, rfl⟩
              rw [← hV1, ← hV2] at hins
              have hl1 : V1.length = i := by rw [hV1, List.length_take]; omega
              have hl2 : V2.length = U.length - i := by rw [hV2, List.length_drop]
              have HL1 := hid hl1; have HL2 := hid hl2
              have hgB : g < B0 := by rw [HB0.out]; exact HGG.out
              have OD := hid (show OwnR wr.drew w.heap.size (.slice (some ⟨g, 0, none⟩) U.length vc) U from ownsZ_new O6.out (Mod.refl _ _).drew)
              have HMB := hid (HB0.out)
              have X7 := hid (X6.out.drew)
              have HPA : Hid (∀ (j : Nat) (u : Value), (runRow V1)[j]? = some u → wr.drew.cell? ((⟨g, 0, none⟩ : Addr).add j) = some u) := hid (by
                have := OD.out.part 0 V1 (fun j y hy => by rw [hV1, List.getElem?_take] at hy; split at hy; rw [Nat.zero_add]; exact hy; cases hy)
                rwa [Nat.zero_mul] at this)
              have HV2 : Hid (∀ (j : Nat) y, V2[j]? = some y → U[i + j]? = some y) := hid (fun j y hy => by rw [hV2, List.getElem?_drop] at hy; exact hy)
              clear hV1 hV2 hl1 hl2 hiI
              go_wp2_with (first | (at_builtin; go_loud (refine wpList_append_own_at _ rfl _ _ 38 rfl B0 34 i0 _ 2 16 Tryz.underlying38 hi hz0 hz1 hz2 rfl (by decide) (.slice none 0 0) 0 [] rfl ?owA ⟨g, 0, none⟩ i vc (runRow V1) rfl ?hlA ?hnA ?h1A ?h63A ?hbyA ?hbaA ?_)) | fail)
              case owA => exact World.ownsRow_nil _ _ _ _
              case hlA => rw [runRow_len, HL1.out]
              case hnA => exact fun j u hj => by have := HPA.out j u hj; first | exact this | (rw [addN, Nat.zero_add] at this; exact this)
              case h1A => exact cells_one _
              case h63A => unfold maxLen; omega
              case hbyA => omega
              case hbaA => have := HB0.out; simp; omega
              intro o1 w1 r1 g1 hne1 hob1
              have NN1 : New wr.drew w1 := newGrown (Mod.refl _ _) g1 (fun q hq => by cases hq)
              have N1 : Hid (New w w1) := hid (N9.out.trans NN1)
              have O1 := hid (OD.out.keep g1 (by simp [Value.ownBlock]))
              have R1 : Hid (w1.ownsRow B0 34 2 o1 i (runRow V1)) := hid (by simpa using r1)
              have X8 := hid (New.blk NN1 X7.out)
              have x0 : w1.cell? ⟨X, 0, none⟩ = some (.int .i64 s5.frm) := X8.out.cellv 0 rfl
              have x1 : w1.cell? ⟨X, 1, none⟩ = some (.int .i64 s5.cnt) := X8.out.cellv 1 rfl
              have xl := X8.out.lt
              obtain ⟨sa, sc, rfl⟩ : ∃ sa sc, o1 = .slice sa i sc := by
                rcases R1.out.2 with ⟨e, hz⟩ | ⟨g9, cap9, cur9, e, -⟩
                · exact ⟨none, 0, by rw [e, hz]⟩
                · exact ⟨_, _, e⟩
              have hgo1 := hid (show some g ≠ (Value.slice sa i sc).ownBlock from fun e => by have := (World.ownsRow.lt R1.out g e.symm).1; omega)
              have hB1 : B0 ≤ w1.heap.size := by have := NN1.size; have h2 := HB0.out; simp at this; omega
              clear r1 g1 hne1 hob1 NN1
              go_wp2_with (first | (at_builtin; go_loud (refine wpList_append_own_at _ rfl _ _ 38 rfl B0 34 i0 _ 2 16 Tryz.underlying38 hi hz0 hz1 hz2 rfl (by decide) (.slice sa i sc) i (runRow V1) rfl ?owB ⟨w1.heap.size, 0, none⟩ 1 1 (runCells (s5.frm, s5.cnt)) rfl ?hlB ?hnB ?h1B ?h63B ?hbyB ?hbaB ?_)) | fail)
              case owB => exact ownsZ_new R1.out ((Mod.refl _ _).alloc _)
              case hlB => rfl
              case hnB => first | exact fun j u hj => hj | exact two_newU _ _ _ _ rfl
              case h1B => intro u hu; simp [runCells] at hu; rcases hu with rfl | rfl <;> rfl
              case h63B => unfold maxLen; omega
              case hbyB => omega
              case hbaB => simp; omega
              intro o2 w2 r2 g2 hne2 hob2
              have N2 : Hid (New w w2) := hid (newGrown (N1.out.trans ((Mod.refl _ _).alloc _)) g2 (fun q hq => by have := (World.ownsRow.lt R1.out q hq).1; omega))
              have O2 : Hid (OwnR w2 w.heap.size (.slice (some ⟨g, 0, none⟩) U.length vc) U) := hid (OwnR.keep (ownsZ_new O1.out ((Mod.refl _ _).alloc _)) g2 hgo1.out)
              have R2 : Hid (w2.ownsRow B0 34 2 o2 (i + 1) (runRow V1 ++ runCells (s5.frm, s5.cnt))) := hid r2
              obtain ⟨sb, sd, rfl⟩ : ∃ sb sd, o2 = .slice sb (i + 1) sd := by
                rcases R2.out.2 with ⟨e, hz⟩ | ⟨g9, cap9, cur9, e, -⟩
                · exact absurd hz (by simp)
                · exact ⟨_, _, e⟩
              have hgo2 := hid (show some g ≠ (Value.slice sb (i + 1) sd).ownBlock from fun e => by have := (World.ownsRow.lt R2.out g e.symm).1; omega)
              have hB2 : B0 ≤ w2.heap.size := by have := g2.size; simp at this; omega
              clear r2 g2 hne2 hob2 x0 x1 xl
              have HPC : Hid (∀ (j : Nat) (u : Value), (runRow V2)[j]? = some u → w2.cell? ((⟨g, i * 2, none⟩ : Addr).add j) = some u) := hid (O2.out.part i V2 HV2.out)
              by_cases hvi : vc = i
              · have hvi2 := hvi.symm
                subst hvi2
                clear hvi
                have hV0 : V2 = [] := List.eq_nil_of_length_eq_zero (by have := HL2.out; omega)
                have HV0 := hid hV0
                clear hV0
                have hUi : U.length - i = 0 := by omega
                have HUI := hid hUi
                clear hUi
                go_wp2_with (first | (at_builtin; go_loud (refine wpList_append_own_at _ rfl _ _ 38 rfl B0 34 i0 _ 2 16 Tryz.underlying38 hi hz0 hz1 hz2 rfl (by decide) (.slice sb (i + 1) sd) (i + 1) (runRow V1 ++ runCells (s5.frm, s5.cnt)) rfl ?owC ⟨g, 0, none⟩ 0 0 (runRow V2) rfl ?hlC ?hnC ?h1C ?h63C ?hbyC ?hbaC ?_)) | fail)
                case owC => exact R2.out
                case hlC => (rw [HV0.out]; rfl)
                case hnC => exact (fun j u hj => by rw [HV0.out] at hj; simp [runRow] at hj)
                case h1C => exact cells_one _
                case h63C => unfold maxLen; omega
                case hbyC => omega
                case hbaC => omega
                intro o3 w3 r3 g3 hne3 hob3
                have N3 : Hid (New w w3) := hid (newGrown N2.out g3 (fun q hq => by have := (World.ownsRow.lt R2.out q hq).1; omega))
                have R3 : Hid (OwnR w3 B0 o3 (V1 ++ (s5.frm, s5.cnt) :: V2)) := hid (by
                  unfold OwnR
                  rw [runRow_app, show runRow ((s5.frm, s5.cnt) :: V2) = runCells (s5.frm, s5.cnt) ++ runRow V2 from rfl, ← List.append_assoc, List.length_append, List.length_cons, HL1.out, HL2.out, show i + (U.length - i + 1) = i + 1 + (U.length - i) by omega]
                  first | exact r3 | (rw [List.append_assoc]; exact r3) | (rw [HUI.out]; exact r3) | (rw [HUI.out, List.append_assoc]; exact r3))
                clear r3 g3 hne3 hob3
                go_wp2
                exact ⟨⟨k + 1, _, V1 ++ (s5.frm, s5.cnt) :: V2, by simp, rfl, by omega, R3.out.base hwB, by rw [HNX.out, if_neg HC.out]; exact hins.out.2.trans ((List.Perm.cons _ HPM.out).trans (List.perm_append_comm (l₁ := [(s5.frm, s5.cnt)]))), hins.out.1, N3.out⟩, by simp [intOf]; omega⟩
              · go_wp2_with (first | (at_builtin; go_loud (refine wpList_append_own_at _ rfl _ _ 38 rfl B0 34 i0 _ 2 16 Tryz.underlying38 hi hz0 hz1 hz2 rfl (by decide) (.slice sb (i + 1) sd) (i + 1) (runRow V1 ++ runCells (s5.frm, s5.cnt)) rfl ?owC ⟨g, i * 2, none⟩ (U.length - i) (vc - i) (runRow V2) rfl ?hlC ?hnC ?h1C ?h63C ?hbyC ?hbaC ?_)) | fail)
                case owC => exact R2.out
                case hlC => (rw [runRow_len, HL2.out])
                case hnC => exact HPC.out
                case h1C => exact cells_one _
                case h63C => unfold maxLen; omega
                case hbyC => omega
                case hbaC => omega
                intro o3 w3 r3 g3 hne3 hob3
                have N3 : Hid (New w w3) := hid (newGrown N2.out g3 (fun q hq => by have := (World.ownsRow.lt R2.out q hq).1; omega))
                have R3 : Hid (OwnR w3 B0 o3 (V1 ++ (s5.frm, s5.cnt) :: V2)) := hid (by
                  unfold OwnR
                  rw [runRow_app, show runRow ((s5.frm, s5.cnt) :: V2) = runCells (s5.frm, s5.cnt) ++ runRow V2 from rfl, ← List.append_assoc, List.length_append, List.length_cons, HL1.out, HL2.out, show i + (U.length - i + 1) = i + 1 + (U.length - i) by omega]
                  first | exact r3 | (rw [List.append_assoc]; exact r3) | (rw [HUI.out]; exact r3) | (rw [HUI.out, List.append_assoc]; exact r3))
                clear r3 g3 hne3 hob3
                go_wp2
                exact ⟨⟨k + 1, _, V1 ++ (s5.frm, s5.cnt) :: V2, by simp, rfl, by omega, R3.out.base hwB, by rw [HNX.out, if_neg HC.out]; exact hins.out.2.trans ((List.Perm.cons _ HPM.out).trans (List.perm_append_comm (l₁ := [(s5.frm, s5.cnt)]))), hins.out.1, N3.out⟩, by simp [intOf]; omega⟩
    · obtain rfl : k = r.webs.length := by omega
      have hR := hid ho.runs
      rw [List.take_length] at HPM
      clear ho hpm hpw hn
      go_wp2
      go_ret
      exact ⟨_, U, rfl, HPM.out, HPW.out, hR.out, HN.out⟩
end Go.Proofs.YtnhgichiedninaaGreatDoor
