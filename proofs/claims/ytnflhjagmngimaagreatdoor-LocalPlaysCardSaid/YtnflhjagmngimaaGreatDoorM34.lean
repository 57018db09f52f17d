/-
  Several texts in one, in their build order. The walk of due (the reference's crier): the numbers of the names that are due, those that wait longest first. Conditions: the crier lies as told.
-/
import Derived.Test.YtnflhjagmngimaaGreatDoorM32
namespace Go.Proofs.YtnflhjagmngimaaGreatDoor
set_option linter.unusedSimpArgs false
set_option linter.unusedVariables false
open Go.RowKit Go.Shelf

def lastD (U : List (ByteArray × Int)) (i : Nat) : Int := (U.getD i (⟨#[]⟩, -1)).2
def dueB (every t : Int) (U : List (ByteArray × Int)) (i : Nat) : Bool := decide (lastD U i < 0) || decide (every ≤ t - lastD U i)
def befD (U : List (ByteArray × Int)) (a b : Nat) : Prop := lastD U a < lastD U b ∨ lastD U a = lastD U b ∧ a < b
def natRow (D : List Nat) : List Value := D.map fun (i : Nat) => Value.int .i64 (i : Int)
def OwnI (w : World) (base : Nat) (v : Value) (D : List Nat) : Prop := w.ownsRow base 3 1 v D.length (natRow D)
theorem info_int : (Tryz.prog.info? 3).map (fun i => (i.zero, i.size, i.bytes)) = some (some (.int .i64 0), 1, 8) := by kernel_rfl
theorem natRow_app (U V : List Nat) : natRow (U ++ V) = natRow U ++ natRow V := List.map_append
theorem natRow_len (U : List Nat) : (natRow U).length = U.length := List.length_map ..
theorem nat_one (U : List Nat) : ∀ u ∈ natRow U, u.oneCell' = true := by
  intro u hu
  obtain ⟨y, -, rfl⟩ := List.mem_map.1 hu
  rfl
theorem lastD_at {U : List (ByteArray × Int)} {i : Nat} (h : i < U.length) : lastD U i = U[i].2 := by
  unfold lastD
  rw [List.getD_eq_getElem?_getD, List.getElem?_eq_getElem h]
  rfl
theorem OwnI.base {w : World} {base base' : Nat} {v : Value} {U : List Nat} (h : OwnI w base v U) (hb : base' ≤ base) : OwnI w base' v U := by
  refine ⟨h.1, ?_⟩
  rcases h.2 with h1 | ⟨g, cap, cur, e, hbg, rest⟩
  · exact .inl h1
  · exact .inr ⟨g, cap, cur, e, Nat.le_trans hb hbg, rest⟩
theorem OwnI.cell {w : World} {base g cap n : Nat} {U : List Nat} (h : OwnI w base (.slice (some ⟨g, 0, none⟩) n cap) U) {j y : Nat} (hj : U[j]? = some y) : w.cell? ⟨g, j, none⟩ = some (.int .i64 (y : Int)) := by
  have h2 := World.ownsRow.cells (g := g) h rfl j (.int .i64 (y : Int)) (by unfold natRow; rw [List.getElem?_map, hj]; rfl)
  rw [addP] at h2
  simpa using h2
/-- The cells of a part of an own row, as a source of append. -/
theorem OwnI.part {w : World} {base g cap : Nat} {U : List Nat} {n : Nat} (h : OwnI w base (.slice (some ⟨g, 0, none⟩) n cap) U) (i : Nat) (V : List Nat) (hV : ∀ (j : Nat) y, V[j]? = some y → U[i + j]? = some y) : ∀ (j : Nat) (u : Value), (natRow V)[j]? = some u → w.cell? ((⟨g, i, none⟩ : Addr).add j) = some u := by
  intro j u hj
  unfold natRow at hj
  rw [List.getElem?_map] at hj
  cases hy : V[j]? with
  | none => rw [hy] at hj; cases hj
  | some y =>
    rw [hy] at hj
    injection hj with hj
    rw [addP, ← hj]
    exact h.cell (hV j y hy)
theorem OwnI.keep {w w' : World} {base g n cap : Nat} {U : List Nat} {row : Option Nat} (h : OwnI w base (.slice (some ⟨g, 0, none⟩) n cap) U) (hg : w.grownBy w' row) (hne : some g ≠ row) : OwnI w' base (.slice (some ⟨g, 0, none⟩) n cap) U :=
  World.ownsRow.kept h hg (.inr hne)
/-- A number put where it belongs. -/
theorem ins_okD {U : List (ByteArray × Int)} {D : List Nat} {x i : Nat} (hs : D.Pairwise (befD U)) (hi : i ≤ D.length) (hlt : ∀ y ∈ D, y < x) (h1 : ∀ j y, i ≤ j → D[j]? = some y → lastD U x < lastD U y) (h2 : ∀ j y, i = j + 1 → D[j]? = some y → lastD U y ≤ lastD U x) :
    (D.take i ++ x :: D.drop i).Pairwise (befD U) ∧ (D.take i ++ x :: D.drop i).Perm (x :: D) := by
  refine ⟨?_, ?_⟩
  · have hsp : D = D.take i ++ D.drop i := (List.take_append_drop i D).symm
    have hp := hs
    rw [hsp, List.pairwise_append] at hp
    obtain ⟨p1, p2, p3⟩ := hp
    rw [List.pairwise_append]
    refine ⟨p1, List.pairwise_cons.2 ⟨fun y hy => ?_, p2⟩, fun a ha b hb => ?_⟩
    · obtain ⟨j, hj⟩ := List.getElem?_of_mem hy
      rw [List.getElem?_drop] at hj
      exact .inl (h1 (i + j) y (by omega) hj)
    · have hax : befD U a x := by
        have hax0 : lastD U a ≤ lastD U x := by
          obtain ⟨j, hj⟩ := List.getElem?_of_mem ha
          rw [List.getElem?_take] at hj
          split at hj
          · next hji =>
            obtain ⟨z, hz⟩ : ∃ z, D[i - 1]? = some z := ⟨_, List.getElem?_eq_getElem (by omega)⟩
            have hzx := h2 (i - 1) z (by omega) hz
            by_cases e : j = i - 1
            · subst e
              rw [hz] at hj
              cases hj
              exact hzx
            · have hpp := List.pairwise_iff_getElem.1 hs j (i - 1) (by omega) (by omega) (by omega)
              have e1 := (List.getElem?_eq_some_iff.1 hj).2
              have e2 := (List.getElem?_eq_some_iff.1 hz).2
              rw [e1, e2] at hpp
              unfold befD at hpp
              omega
          · cases hj
        have := hlt a (List.mem_of_mem_take ha)
        unfold befD
        omega
      rcases List.mem_cons.1 hb with e | hb
      · rw [e]; exact hax
      · exact p3 a ha b hb
  · conv => rhs; rw [← List.take_append_drop i D]
    exact List.perm_middle
theorem ins_h2D {U : List (ByteArray × Int)} {D : List Nat} {x i y : Nat} (hy : D[i]? = some y) (h : ¬ lastD U x < lastD U y) : ∀ (j : Nat) (z : Nat), i + 1 = j + 1 → D[j]? = some z → lastD U z ≤ lastD U x := by
  intro j z hj hz
  obtain rfl : i = j := by omega
  rw [hy] at hz
  cases hz
  omega
theorem range_filter_next (p : Nat → Bool) (k : Nat) : (List.range (k + 1)).filter p = (List.range k).filter p ++ (if p k = true then [k] else []) := by
  rw [List.range_succ, List.filter_append]
  congr 1
  by_cases h : p k = true
  · rw [if_pos h]; simp [h]
  · rw [if_neg h]; simp [h]
set_option maxRecDepth 100000 in
set_option maxHeartbeats 16000000 in
theorem rdue_any (R : Nat) (aa ah : Option Addr) (ca ch : Nat) (r : RcV) (t : Int) (w : World) (h : RcAt w R aa ah ca ch r) (ho : RcOk r) (ht : 0 ≤ t ∧ t ≤ 1000000000) :
    Calls Tryz.prog 60 #[.pointer (some ⟨R, 0, none⟩), .int .i64 t] w fun e w' => ∃ v D, e = .returned v ∧ OwnI w' w.heap.size v D ∧ D.Perm ((List.range r.all.length).filter (dueB r.every t r.all)) ∧ D.Pairwise (befD r.all) ∧ New w w' := by
  have HR := hid h
  have HO := hid ho
  have hfew := ho.few; have hev := ho.every
  have hc1 := h.all.le; have hc2 := h.all.max
  unfold maxLen at hc2
  have c3 : w.cell? ⟨R, 3, none⟩ = some (.slice aa r.all.length ca) := h.row.cellv 3 rfl
  have cl := h.row.lt
  obtain ⟨i0, hi, hz0, hz1, hz2⟩ := info_parts info_int
  clear h
  go_enter Tryz.func60, Tryz.ntmps60
  go_wp2
  clear c3 cl
  go_loopw [5, 15] (fun v i wr => ∃ (k : Nat) (v1 : Value) (D : List Nat), i = .int .i64 k ∧ v1 = v ∧ k ≤ r.all.length ∧ OwnI wr w.heap.size v D ∧ D.Perm ((List.range k).filter (dueB r.every t r.all)) ∧ D.Pairwise (befD r.all) ∧ New w wr) (fun _ i _ => r.all.length - (intOf i).toNat)
  case atStart => exact ⟨0, _, [], rfl, rfl, by omega, World.ownsRow_nil _ _ _ _, List.Perm.refl _, List.Pairwise.nil, Mod.refl _ _⟩
  case round =>
    obtain ⟨k, v1, D, rfl, rfl, hk, how, hpm, hpw, hn⟩ := hrel
    have HOW := hid how; have HPM := hid hpm; have HPW := hid hpw; have HN := hid hn
    by_cases hlt : k < r.all.length
    · have hDl : D.length ≤ k := by
        have h1 := hpm.length_eq
        have h2 := List.length_filter_le (dueB r.every t r.all) (List.range k)
        rw [List.length_range] at h2
        omega
      have HLT : Hid (∀ y ∈ D, y < k) := hid (fun y hy => by
        have := List.mem_filter.1 (hpm.mem_iff.1 hy)
        exact List.mem_range.1 this.1)
      obtain ⟨ga, rfl, hg, q0, q1, -, -⟩ := (HR.out.new hn).all.get hlt
      have hlast := HO.out.last r.all[k] (List.getElem_mem hlt)
      have hlk := lastD_at hlt
      obtain ⟨s, hs⟩ : ∃ s, s = r.all[k].1 := ⟨_, rfl⟩
      obtain ⟨z, hz⟩ : ∃ z, z = r.all[k].2 := ⟨_, rfl⟩
      rw [← hs] at q0
      rw [← hz] at q1 hlast hlk
      have HLK := hid hlk
      have nA : New wr (wr.alloc (.cells #[.string s, .int .i64 z] 92)) := (Mod.refl _ _).alloc _
      have x1 : (wr.alloc (.cells #[.string s, .int .i64 z] 92)).cell? ⟨wr.heap.size, 1, none⟩ = some (.int .i64 z) := (Blk.new wr #[.string s, .int .i64 z] 92).cellv 1 rfl
      have r2 : (wr.alloc (.cells #[.string s, .int .i64 z] 92)).cell? ⟨R, 2, none⟩ = some (.int .i64 r.every) := (HR.out.new (hn.trans nA)).row.cellv 2 rfl
      have HX := hid ((Blk.new wr #[.string s, .int .i64 z] 92).drew)
      have N5a : Hid (New w (wr.alloc (.cells #[.string s, .int .i64 z] 92)).drew) := hid ((hn.trans nA).drew)
      have O5a : Hid (OwnI (wr.alloc (.cells #[.string s, .int .i64 z] 92)).drew w.heap.size _ D) := hid (ownsP_new how (nA.drew))
      have hw9 : IntKind.i64.wrap (t - z) = t - z := by rw [IntKind.wrap_i64]; omega
      clear how hpm hpw hn hlk hs hz nA
      by_cases hd : dueB r.every t r.all k = true
      · have HC := hid hd
        have hd2 : z < 0 ∨ r.every ≤ t - z := by
          unfold dueB at hd
          rw [HLK.out] at hd
          simpa using hd
        obtain ⟨va, vc, hv⟩ : ∃ va vc, v1 = .slice va D.length vc := by
          rcases HOW.out.2 with ⟨e, hz⟩ | ⟨g9, cap9, cur9, e, -⟩
          · exact ⟨none, 0, by rw [e, hz]⟩
          · exact ⟨_, _, e⟩
        subst hv
        obtain ⟨w5, h5⟩ : ∃ w5, w5 = (wr.alloc (.cells #[.string s, .int .i64 z] 92)).drew := ⟨_, rfl⟩
        obtain ⟨X, hX⟩ : ∃ X, X = wr.heap.size := ⟨_, rfl⟩
        have N5 : Hid (New w w5) := hid (by rw [h5]; exact N5a.out)
        have O5 : Hid (OwnI w5 w.heap.size (.slice va D.length vc) D) := hid (by rw [h5]; exact O5a.out)
        have X5 : Hid (Blk w5 X #[.string s, .int .i64 z] 92) := hid (by rw [h5, hX]; exact HX.out)
        clear hd N5a O5a HX
        by_cases hz9 : z < 0
        · have hz7 : ¬ 0 ≤ z := by omega
          have e9 : decide (0 ≤ z) = false := decide_eq_false hz7
          have e8 : decide (z ≥ 0) = false := decide_eq_false hz7
          go_wp2_with fail
          refine wp_region_held_drew (S := (fun w' => w'.cell? ⟨wr.heap.size, 1, none⟩ = some (.int .i64 z) ∧ w'.cell? ⟨R, 2, none⟩ = some (.int .i64 r.every))) (by kernel_rfl) ⟨x1, r2⟩ (fun hHeld => ?_)
          refine tk (v := ?_) 0 ?_ ?_
          rotate_left
          · intro w hSw
            (try dsimp only at hSw)
            first | (go_simp; done) | (go_simp; with_reducible rfl) | with_reducible rfl
          simp only [Act.put, List.setIfInBounds_toArray, List.set_cons_zero, List.set_cons_succ]
          refine tk (v := ?_) 1 ?_ ?_
          rotate_left
          · intro w hSw
            (try dsimp only at hSw)
            first | (go_simp; done) | (go_simp; with_reducible rfl) | with_reducible rfl
          simp only [Act.put, List.setIfInBounds_toArray, List.set_cons_zero, List.set_cons_succ]
          refine tk (v := ?_) 2 ?_ ?_
          rotate_left
          · intro w hSw
            (try dsimp only at hSw)
            first | (go_simp; done) | (go_simp; with_reducible rfl) | with_reducible rfl
          simp only [Act.put, List.setIfInBounds_toArray, List.set_cons_zero, List.set_cons_succ]
          refine tk (v := ?_) 3 ?_ ?_
          rotate_left
          · intro w hSw
            (try dsimp only at hSw)
            first | (go_simp; done) | (go_simp; with_reducible rfl) | with_reducible rfl
          simp only [Act.put, List.setIfInBounds_toArray, List.set_cons_zero, List.set_cons_succ]
          refine sk 4 ?_
          simp only [Act.put, List.setIfInBounds_toArray, List.set_cons_zero, List.set_cons_succ]
          refine sk 5 ?_
          simp only [Act.put, List.setIfInBounds_toArray, List.set_cons_zero, List.set_cons_succ]
          refine sk 6 ?_
          simp only [Act.put, List.setIfInBounds_toArray, List.set_cons_zero, List.set_cons_succ]
          refine sk 7 ?_
          simp only [Act.put, List.setIfInBounds_toArray, List.set_cons_zero, List.set_cons_succ]
          refine sk 8 ?_
          simp only [Act.put, List.setIfInBounds_toArray, List.set_cons_zero, List.set_cons_succ]
          refine sk 9 ?_
          simp only [Act.put, List.setIfInBounds_toArray, List.set_cons_zero, List.set_cons_succ]
          refine sk 10 ?_
          simp only [Act.put, List.setIfInBounds_toArray, List.set_cons_zero, List.set_cons_succ]
          refine sk 11 ?_
          simp only [Act.put, List.setIfInBounds_toArray, List.set_cons_zero, List.set_cons_succ]
          refine sk 12 ?_
          simp only [Act.put, List.setIfInBounds_toArray, List.set_cons_zero, List.set_cons_succ]
          refine tk (v := ?_) 13 ?_ ?_
          rotate_left
          · intro w hSw
            (try dsimp only at hSw)
            first | (go_simp; done) | (go_simp; with_reducible rfl) | with_reducible rfl
          simp only [Act.put, List.setIfInBounds_toArray, List.set_cons_zero, List.set_cons_succ]
          refine wpAnyH_done (by kernel_rfl) ?_ _
          rw [← h5, ← hX]
          clear h5 hX x1 r2 q0 q1 hg
          go_wp2_with fail
          go_loopw [8] (fun x wr => ∃ i : Nat, x = .int .i64 i ∧ i ≤ D.length ∧ (∀ j y, i ≤ j → D[j]? = some y → lastD r.all k < lastD r.all y) ∧ New w5 wr) (fun x _ => (intOf x).toNat)
          case atStart => exact ⟨D.length, rfl, Nat.le_refl _, fun j y hj hy => (by rw [List.getElem?_eq_none hj] at hy; cases hy), Mod.refl _ _⟩
          case round =>
            obtain ⟨i, rfl, hi9, hgt, hn⟩ := hrel
            have HGT := hid hgt; have HN2 := hid hn
            have X6 := hid (New.blk hn X5.out)
            have x1 : wr.cell? ⟨X, 1, none⟩ = some (.int .i64 z) := X6.out.cellv 1 rfl
            have xl := X6.out.lt
            have O6 := hid (show OwnI wr w.heap.size (.slice va D.length vc) D from ownsP_new O5.out hn)
            have RR := hid (HR.out.new (N5.out.trans hn))
            have r3 : wr.cell? ⟨R, 3, none⟩ = some (.slice (some ⟨ga, 0, none⟩) r.all.length ca) := RR.out.row.cellv 3 rfl
            have rl := RR.out.row.lt
            clear hgt hn
            by_cases h0 : i = 0
            · subst h0
              go_wp2_with fail
              refine wp_region_held_drew (S := (fun w' => True)) (by kernel_rfl) trivial (fun hHeld => ?_)
              refine tk (v := ?_) 0 ?_ ?_
              rotate_left
              · intro w hSw
                (try dsimp only at hSw)
                first | (go_simp; done) | (go_simp; with_reducible rfl) | with_reducible rfl
              simp only [Act.put, List.setIfInBounds_toArray, List.set_cons_zero, List.set_cons_succ]
              refine tk (v := ?_) 1 ?_ ?_
              rotate_left
              · intro w hSw
                (try dsimp only at hSw)
                first | (go_simp; done) | (go_simp; with_reducible rfl) | with_reducible rfl
              simp only [Act.put, List.setIfInBounds_toArray, List.set_cons_zero, List.set_cons_succ]
              refine tk (v := ?_) 2 ?_ ?_
              rotate_left
              · intro w hSw
                (try dsimp only at hSw)
                first | (go_simp; done) | (go_simp; with_reducible rfl) | with_reducible rfl
              simp only [Act.put, List.setIfInBounds_toArray, List.set_cons_zero, List.set_cons_succ]
              refine sk 3 ?_
              simp only [Act.put, List.setIfInBounds_toArray, List.set_cons_zero, List.set_cons_succ]
              refine sk 4 ?_
              simp only [Act.put, List.setIfInBounds_toArray, List.set_cons_zero, List.set_cons_succ]
              refine sk 5 ?_
              simp only [Act.put, List.setIfInBounds_toArray, List.set_cons_zero, List.set_cons_succ]
              refine sk 6 ?_
              simp only [Act.put, List.setIfInBounds_toArray, List.set_cons_zero, List.set_cons_succ]
              refine sk 7 ?_
              simp only [Act.put, List.setIfInBounds_toArray, List.set_cons_zero, List.set_cons_succ]
              refine sk 8 ?_
              simp only [Act.put, List.setIfInBounds_toArray, List.set_cons_zero, List.set_cons_succ]
              refine sk 9 ?_
              simp only [Act.put, List.setIfInBounds_toArray, List.set_cons_zero, List.set_cons_succ]
              refine sk 10 ?_
              simp only [Act.put, List.setIfInBounds_toArray, List.set_cons_zero, List.set_cons_succ]
              refine sk 11 ?_
              simp only [Act.put, List.setIfInBounds_toArray, List.set_cons_zero, List.set_cons_succ]
              refine sk 12 ?_
              simp only [Act.put, List.setIfInBounds_toArray, List.set_cons_zero, List.set_cons_succ]
              refine sk 13 ?_
              simp only [Act.put, List.setIfInBounds_toArray, List.set_cons_zero, List.set_cons_succ]
              refine sk 14 ?_
              simp only [Act.put, List.setIfInBounds_toArray, List.set_cons_zero, List.set_cons_succ]
              refine sk 15 ?_
              simp only [Act.put, List.setIfInBounds_toArray, List.set_cons_zero, List.set_cons_succ]
              refine sk 16 ?_
              simp only [Act.put, List.setIfInBounds_toArray, List.set_cons_zero, List.set_cons_succ]
              refine sk 17 ?_
              simp only [Act.put, List.setIfInBounds_toArray, List.set_cons_zero, List.set_cons_succ]
              refine tk (v := ?_) 18 ?_ ?_
              rotate_left
              · intro w hSw
                (try dsimp only at hSw)
                first | (go_simp; done) | (go_simp; with_reducible rfl) | with_reducible rfl
              simp only [Act.put, List.setIfInBounds_toArray, List.set_cons_zero, List.set_cons_succ]
              refine wpAnyH_done (by kernel_rfl) ?_ _
              have hins := hid (ins_okD (x := k) HPW.out hi9 HLT.out HGT.out (fun j y hj _ => by omega))
              have N9 : Hid (New w wr.drew) := hid ((N5.out.trans HN2.out).drew)
              obtain ⟨B0, hB0⟩ : ∃ B0, B0 = wr.heap.size := ⟨_, rfl⟩
              have HB0 := hid hB0
              have HwB : Hid (w.heap.size ≤ B0) := hid (by rw [hB0]; exact N9.out.size)
              clear hB0
              rcases O6.out.2 with ⟨hv, hz⟩ | ⟨gd, cap, cur, hv, hbg, hgd, hcap1, hcap2, -⟩
              · injection hv with e1 e2 e3
                subst e1
                subst e3
                obtain rfl : D = [] := List.eq_nil_of_length_eq_zero hz
                clear hz e2
                go_wp2_with (first | (at_builtin; refine wpList_append_own_none rfl _ _ 96 rfl B0 3 i0 1 Tryz.underlying96 hi (.slice none 0 0) 0 [] rfl (World.ownsRow_nil _ _ _ _) rfl ?_) | (at_builtin; go_loud (refine wpList_append_own_at _ rfl _ _ 96 rfl B0 3 i0 _ 1 8 Tryz.underlying96 hi hz0 hz1 hz2 rfl (by decide) (.slice none 0 0) 0 [] rfl ?owNB ⟨wr.heap.size, 0, none⟩ 1 1 [.int .i64 (k : Int)] rfl ?hlNB ?hnNB ?h1NB ?h63NB ?hbyNB ?hbaNB ?_)) | fail)
                case owNB => exact World.ownsRow_nil _ _ _ _
                case hlNB => rfl
                try (case hnNB => exact fun j u hj => by rw [addP]; match j, hj with | 0, hj => simp at hj; subst hj; exact (Blk.newAt (by simp)).cellv 0 rfl)
                try (case h1NB => first | rfl | (intro u hu; simp at hu; subst hu; rfl))
                case h63NB => unfold maxLen; omega
                case hbyNB => omega
                try (case hbaNB => have := HB0.out; simp; omega)
                intro o2 w2 r2 g2 hne2 hob2
                have N2 : Hid (New w w2) := hid (newGrownP (N9.out.alloc _) g2 (fun q hq => by cases hq))
                have R2 : Hid (OwnI w2 B0 o2 [k]) := hid (by
                  have := r2
                  simpa [OwnI, natRow] using this)
                obtain ⟨sa, sc, rfl⟩ : ∃ sa sc, o2 = .slice sa 1 sc := by
                  rcases R2.out.2 with ⟨e, hz⟩ | ⟨g9, cap9, cur9, e, -⟩
                  · exact absurd hz (by simp)
                  · exact ⟨_, _, e⟩
                clear r2 g2 hne2 hob2
                go_wp2_with (first | (at_builtin; refine wpList_append_own_none rfl _ _ 96 rfl B0 3 i0 1 Tryz.underlying96 hi (.slice sa 1 sc) 1 (natRow [k]) rfl R2.out rfl ?_) | fail)
                exact ⟨⟨k + 1, _, [k], by simp, rfl, by omega, R2.out.base HwB.out, by rw [range_filter_next, if_pos HC.out]; have := HPM.out.length_eq; rw [List.eq_nil_of_length_eq_zero this.symm]; exact List.Perm.refl _, List.pairwise_singleton _ _, N2.out⟩, by simp [intOf]; omega⟩
              · injection hv with e1 e2 e3
                subst e1
                subst e3
                have HGG := hid (Array.getElem?_eq_some_iff.1 hgd).1
                clear hgd
                obtain ⟨i, hiI⟩ : ∃ i : Nat, i = 0 := ⟨_, rfl⟩
                rw [show ((0 : Nat) : Int) = (i : Int) by subst hiI; simp]
                rw [← hiI] at hins hi9
                obtain ⟨V1, hV1⟩ : ∃ V1, V1 = D.take i := ⟨_, rfl⟩
                obtain ⟨V2, hV2⟩ : ∃ V2, V2 = D.drop i := ⟨_, rfl⟩
                rw [← hV1, ← hV2] at hins
                have HL1 := hid (show V1.length = i by rw [hV1, List.length_take]; omega)
                have HL2 := hid (show V2.length = D.length - i by rw [hV2, List.length_drop])
                have OD := hid (show OwnI wr.drew w.heap.size (.slice (some ⟨gd, 0, none⟩) D.length vc) D from ownsP_new O6.out (Mod.refl _ _).drew)
                have HPA : Hid (∀ (j : Nat) (u : Value), (natRow V1)[j]? = some u → wr.drew.cell? ((⟨gd, 0, none⟩ : Addr).add j) = some u) := hid (OD.out.part 0 V1 (fun j y hy => by rw [hV1, List.getElem?_take] at hy; split at hy; rw [Nat.zero_add]; exact hy; cases hy))
                have HV2 : Hid (∀ (j : Nat) y, V2[j]? = some y → D[i + j]? = some y) := hid (fun j y hy => by rw [hV2, List.getElem?_drop] at hy; exact hy)
                have HgB : Hid (gd < B0) := hid (by rw [HB0.out]; exact HGG.out)
                clear hV1 hV2 hiI
                go_wp2_with (first | (at_builtin; go_loud (refine wpList_append_own_at _ rfl _ _ 96 rfl B0 3 i0 _ 1 8 Tryz.underlying96 hi hz0 hz1 hz2 rfl (by decide) (.slice none 0 0) 0 [] rfl ?owAZP ⟨gd, 0, none⟩ i vc (natRow V1) rfl ?hlAZP ?hnAZP ?h1AZP ?h63AZP ?hbyAZP ?hbaAZP ?_)) | fail)
                case owAZP => exact World.ownsRow_nil _ _ _ _
                case hlAZP => first | (rw [natRow_len, HL1.out]; done) | rw [natRow_len, HL1.out, Nat.mul_one]
                try (case hnAZP => exact fun j u hj => by have := HPA.out j u hj; first | exact this | (rw [addP, Nat.zero_add] at this; exact this))
                case h1AZP => exact nat_one _
                case h63AZP => unfold maxLen; omega
                case hbyAZP => omega
                try (case hbaAZP => have := HB0.out; simp; omega)
                intro o1 w1 r1 g1 hne1 hob1
                have NN1 : New wr.drew w1 := newGrownP (Mod.refl _ _) g1 (fun q hq => by cases hq)
                have N1 : Hid (New w w1) := hid (N9.out.trans NN1)
                have O1 := hid (OD.out.keep g1 (by simp [Value.ownBlock]))
                have R1 : Hid (w1.ownsRow B0 3 1 o1 i (natRow V1)) := hid (by simpa using r1)
                obtain ⟨sa, sc, rfl⟩ : ∃ sa sc, o1 = .slice sa i sc := by
                  rcases R1.out.2 with ⟨e, hz⟩ | ⟨g9, cap9, cur9, e, -⟩
                  · exact ⟨none, 0, by rw [e, hz]⟩
                  · exact ⟨_, _, e⟩
                have hgo1 := hid (show some gd ≠ (Value.slice sa i sc).ownBlock from fun e => by have := (World.ownsRow.lt R1.out gd e.symm).1; have := HgB.out; omega)
                have HB1 : Hid (B0 ≤ w1.heap.size) := hid (by have := NN1.size; have h2 := HB0.out; simp at this; omega)
                clear r1 g1 hne1 hob1 NN1
                go_wp2_with (first | (at_builtin; go_loud (refine wpList_append_own_at _ rfl _ _ 96 rfl B0 3 i0 _ 1 8 Tryz.underlying96 hi hz0 hz1 hz2 rfl (by decide) (.slice sa i sc) i (natRow V1) rfl ?owBZP ⟨w1.heap.size, 0, none⟩ 1 1 [.int .i64 (k : Int)] rfl ?hlBZP ?hnBZP ?h1BZP ?h63BZP ?hbyBZP ?hbaBZP ?_)) | fail)
                case owBZP => exact ownsP_new R1.out ((Mod.refl _ _).alloc _)
                case hlBZP => rfl
                try (case hnBZP => exact fun j u hj => by rw [addP]; match j, hj with | 0, hj => simp at hj; subst hj; exact (Blk.newAt (by simp)).cellv 0 rfl)
                try (case h1BZP => first | rfl | (intro u hu; simp at hu; subst hu; rfl))
                case h63BZP => unfold maxLen; omega
                case hbyBZP => omega
                try (case hbaBZP => have := HB1.out; simp; omega)
                intro o2 w2 r2 g2 hne2 hob2
                have N2 : Hid (New w w2) := hid (newGrownP (N1.out.alloc _) g2 (fun q hq => by have := (World.ownsRow.lt R1.out q hq).1; have := HwB.out; omega))
                have O2 : Hid (OwnI w2 w.heap.size (.slice (some ⟨gd, 0, none⟩) D.length vc) D) := hid (OwnI.keep (ownsP_new O1.out ((Mod.refl _ _).alloc _)) g2 hgo1.out)
                have R2 : Hid (w2.ownsRow B0 3 1 o2 (i + 1) (natRow V1 ++ [.int .i64 (k : Int)])) := hid r2
                obtain ⟨sb, sd, rfl⟩ : ∃ sb sd, o2 = .slice sb (i + 1) sd := by
                  rcases R2.out.2 with ⟨e, hz⟩ | ⟨g9, cap9, cur9, e, -⟩
                  · exact absurd hz (by simp)
                  · exact ⟨_, _, e⟩
                have HB2 : Hid (B0 ≤ w2.heap.size) := hid (by have := g2.size; have := HB1.out; simp at *; omega)
                clear r2 g2 hne2 hob2
                have HPC : Hid (∀ (j : Nat) (u : Value), (natRow V2)[j]? = some u → w2.cell? ((⟨gd, i, none⟩ : Addr).add j) = some u) := hid (O2.out.part i V2 HV2.out)
                by_cases hvi : vc = i
                · have hvi2 := hvi.symm
                  subst hvi2
                  clear hvi
                  have hV0 : V2 = [] := List.eq_nil_of_length_eq_zero (by have := HL2.out; omega)
                  have HV0 := hid hV0
                  clear hV0
                  have hUi : D.length - i = 0 := by omega
                  have HUI := hid hUi
                  clear hUi
                  go_wp2_with (first | (at_builtin; go_loud (refine wpList_append_own_at _ rfl _ _ 96 rfl B0 3 i0 _ 1 8 Tryz.underlying96 hi hz0 hz1 hz2 rfl (by decide) (.slice sb (i + 1) sd) (i + 1) (natRow V1 ++ [.int .i64 (k : Int)]) rfl ?owCZP ⟨gd, 0, none⟩ 0 0 (natRow V2) rfl ?hlCZP ?hnCZP ?h1CZP ?h63CZP ?hbyCZP ?hbaCZP ?_)) | fail)
                  case owCZP => exact R2.out
                  case hlCZP => (rw [HV0.out]; rfl)
                  try (case hnCZP => exact fun j u hj => by first | exact ((fun j u hj => by rw [HV0.out] at hj; simp [natRow] at hj)) j u hj | (have := ((fun j u hj => by rw [HV0.out] at hj; simp [natRow] at hj)) j u hj; rw [addP] at this; exact this) | (exfalso; rw [HV0.out] at hj; simp [natRow] at hj))
                  case h1CZP => exact nat_one _
                  case h63CZP => unfold maxLen; omega
                  case hbyCZP => omega
                  case hbaCZP => exact HB2.out
                  intro o3 w3 r3 g3 hne3 hob3
                  have N3 : Hid (New w w3) := hid (newGrownP N2.out g3 (fun q hq => by have := (World.ownsRow.lt R2.out q hq).1; have := HwB.out; omega))
                  have R3 : Hid (OwnI w3 B0 o3 (V1 ++ k :: V2)) := hid (by
                    unfold OwnI
                    rw [natRow_app, show natRow (k :: V2) = [.int .i64 (k : Int)] ++ natRow V2 from rfl, ← List.append_assoc, List.length_append, List.length_cons, HL1.out, HL2.out, show i + (D.length - i + 1) = i + 1 + (D.length - i) by omega]
                    first | exact r3 | (rw [List.append_assoc]; exact r3) | (rw [HUI.out]; exact r3) | (rw [HUI.out, List.append_assoc]; exact r3))
                  clear r3 g3 hne3 hob3
                  go_wp2
                  exact ⟨⟨k + 1, _, V1 ++ k :: V2, by simp, rfl, by omega, R3.out.base HwB.out, by rw [range_filter_next, if_pos HC.out]; exact hins.out.2.trans ((List.Perm.cons _ HPM.out).trans (List.perm_append_comm (l₁ := [k]))), hins.out.1, N3.out⟩, by simp [intOf]; omega⟩
                · have HUI : Hid (0 = 0) := hid rfl
                  have HV0 : Hid (0 = 0) := hid rfl
                  go_wp2_with (first | (at_builtin; go_loud (refine wpList_append_own_at _ rfl _ _ 96 rfl B0 3 i0 _ 1 8 Tryz.underlying96 hi hz0 hz1 hz2 rfl (by decide) (.slice sb (i + 1) sd) (i + 1) (natRow V1 ++ [.int .i64 (k : Int)]) rfl ?owDZP ⟨gd, i, none⟩ (D.length - i) (vc - i) (natRow V2) rfl ?hlDZP ?hnDZP ?h1DZP ?h63DZP ?hbyDZP ?hbaDZP ?_)) | fail)
                  case owDZP => exact R2.out
                  case hlDZP => (first | (rw [natRow_len, HL2.out]; done) | rw [natRow_len, HL2.out, Nat.mul_one])
                  try (case hnDZP => exact fun j u hj => by first | exact (HPC.out) j u hj | (have := (HPC.out) j u hj; rw [addP] at this; exact this) | (exfalso; rw [HV0.out] at hj; simp [natRow] at hj))
                  case h1DZP => exact nat_one _
                  case h63DZP => unfold maxLen; omega
                  case hbyDZP => omega
                  case hbaDZP => exact HB2.out
                  intro o3 w3 r3 g3 hne3 hob3
                  have N3 : Hid (New w w3) := hid (newGrownP N2.out g3 (fun q hq => by have := (World.ownsRow.lt R2.out q hq).1; have := HwB.out; omega))
                  have R3 : Hid (OwnI w3 B0 o3 (V1 ++ k :: V2)) := hid (by
                    unfold OwnI
                    rw [natRow_app, show natRow (k :: V2) = [.int .i64 (k : Int)] ++ natRow V2 from rfl, ← List.append_assoc, List.length_append, List.length_cons, HL1.out, HL2.out, show i + (D.length - i + 1) = i + 1 + (D.length - i) by omega]
                    first | exact r3 | (rw [List.append_assoc]; exact r3) | (rw [HUI.out]; exact r3) | (rw [HUI.out, List.append_assoc]; exact r3))
                  clear r3 g3 hne3 hob3
                  go_wp2
                  exact ⟨⟨k + 1, _, V1 ++ k :: V2, by simp, rfl, by omega, R3.out.base HwB.out, by rw [range_filter_next, if_pos HC.out]; exact hins.out.2.trans ((List.Perm.cons _ HPM.out).trans (List.perm_append_comm (l₁ := [k]))), hins.out.1, N3.out⟩, by simp [intOf]; omega⟩
            · obtain ⟨j3, rfl⟩ : ∃ j3, i = j3 + 1 := ⟨i - 1, by omega⟩
              rcases O6.out.2 with ⟨hv, hz⟩ | ⟨gd, cap, cur, hv, hbg, hgd, hcap1, hcap2, -⟩
              · omega
              injection hv with e1 e2 e3
              subst e1
              subst e3
              have hj20 : j3 ≤ 200 := by omega
              have hjU : (j3 : Int) < (D.length : Int) := by omega
              have hwj : IntKind.i64.wrap (j3 : Int) = (j3 : Int) := by rw [IntKind.wrap_i64]; omega
              obtain ⟨y, hy⟩ : ∃ y, D[j3]? = some y := ⟨_, List.getElem?_eq_getElem (by omega)⟩
              have hg0 : wr.cell? ⟨gd, j3, none⟩ = some (.int .i64 (y : Int)) := O6.out.cell hy
              have hyk := HLT.out y (List.mem_of_getElem? hy)
              have hyl : y < r.all.length := by omega
              have hyI : (y : Int) < (r.all.length : Int) := by omega
              obtain ⟨g9, e9, hg9, -, p1, -, -⟩ := RR.out.all.get hyl
              cases e9
              have hly := lastD_at hyl
              obtain ⟨zy, hzy⟩ : ∃ zy, zy = r.all[y].2 := ⟨_, rfl⟩
              rw [← hzy] at p1 hly
              have HLY := hid hly
              have hgl : gd < wr.heap.size := (Array.getElem?_eq_some_iff.1 hgd).1
              have HY := hid hy
              have HGG := hid hgl
              clear hgd hy hly hzy
              by_cases hcmp : z < zy
              · go_wp2_with fail
                refine wp_region_held_drew (S := (fun w' => w'.cell? ⟨X, 1, none⟩ = some (.int .i64 z) ∧ w'.cell? ⟨R, 3, none⟩ = some (.slice (some ⟨ga, 0, none⟩) r.all.length ca) ∧ w'.cell? ⟨gd, j3, none⟩ = some (.int .i64 (y : Int)) ∧ w'.cell? ⟨ga, y * 2 + 1, none⟩ = some (.int .i64 zy))) (by kernel_rfl) ⟨x1, r3, hg0, p1⟩ (fun hHeld => ?_)
                refine tk (v := ?_) 0 ?_ ?_
                rotate_left
                · intro w hSw
                  (try dsimp only at hSw)
                  first | (go_simp; done) | (go_simp; with_reducible rfl) | with_reducible rfl
                simp only [Act.put, List.setIfInBounds_toArray, List.set_cons_zero, List.set_cons_succ]
                refine tk (v := ?_) 1 ?_ ?_
                rotate_left
                · intro w hSw
                  (try dsimp only at hSw)
                  first | (go_simp; done) | (go_simp; with_reducible rfl) | with_reducible rfl
                simp only [Act.put, List.setIfInBounds_toArray, List.set_cons_zero, List.set_cons_succ]
                refine tk (v := ?_) 2 ?_ ?_
                rotate_left
                · intro w hSw
                  (try dsimp only at hSw)
                  first | (go_simp; done) | (go_simp; with_reducible rfl) | with_reducible rfl
                simp only [Act.put, List.setIfInBounds_toArray, List.set_cons_zero, List.set_cons_succ]
                refine tk (v := ?_) 3 ?_ ?_
                rotate_left
                · intro w hSw
                  (try dsimp only at hSw)
                  first | (go_simp; done) | (go_simp; with_reducible rfl) | with_reducible rfl
                simp only [Act.put, List.setIfInBounds_toArray, List.set_cons_zero, List.set_cons_succ]
                refine tk (v := ?_) 4 ?_ ?_
                rotate_left
                · intro w hSw
                  (try dsimp only at hSw)
                  first | (go_simp; done) | (go_simp; with_reducible rfl) | with_reducible rfl
                simp only [Act.put, List.setIfInBounds_toArray, List.set_cons_zero, List.set_cons_succ]
                refine tk (v := ?_) 5 ?_ ?_
                rotate_left
                · intro w hSw
                  (try dsimp only at hSw)
                  first | (go_simp; done) | (go_simp; with_reducible rfl) | with_reducible rfl
                simp only [Act.put, List.setIfInBounds_toArray, List.set_cons_zero, List.set_cons_succ]
                refine tk (v := ?_) 6 ?_ ?_
                rotate_left
                · intro w hSw
                  (try dsimp only at hSw)
                  first | (go_simp; done) | (go_simp; with_reducible rfl) | with_reducible rfl
                simp only [Act.put, List.setIfInBounds_toArray, List.set_cons_zero, List.set_cons_succ]
                refine tk (v := ?_) 7 ?_ ?_
                rotate_left
                · intro w hSw
                  (try dsimp only at hSw)
                  first | (go_simp; done) | (go_simp; with_reducible rfl) | with_reducible rfl
                simp only [Act.put, List.setIfInBounds_toArray, List.set_cons_zero, List.set_cons_succ]
                refine tk (v := ?_) 8 ?_ ?_
                rotate_left
                · intro w hSw
                  (try dsimp only at hSw)
                  first | (go_simp; done) | (go_simp; with_reducible rfl) | with_reducible rfl
                simp only [Act.put, List.setIfInBounds_toArray, List.set_cons_zero, List.set_cons_succ]
                refine tk (v := ?_) 9 ?_ ?_
                rotate_left
                · intro w hSw
                  (try dsimp only at hSw)
                  first | (go_simp; done) | (go_simp; with_reducible rfl) | with_reducible rfl
                simp only [Act.put, List.setIfInBounds_toArray, List.set_cons_zero, List.set_cons_succ]
                refine tk (v := ?_) 10 ?_ ?_
                rotate_left
                · intro w hSw
                  (try dsimp only at hSw)
                  first | (go_simp; done) | (go_simp; with_reducible rfl) | with_reducible rfl
                simp only [Act.put, List.setIfInBounds_toArray, List.set_cons_zero, List.set_cons_succ]
                refine tk (v := ?_) 11 ?_ ?_
                rotate_left
                · intro w hSw
                  (try dsimp only at hSw)
                  first | (go_simp; done) | (go_simp; with_reducible rfl) | with_reducible rfl
                simp only [Act.put, List.setIfInBounds_toArray, List.set_cons_zero, List.set_cons_succ]
                refine tk (v := ?_) 12 ?_ ?_
                rotate_left
                · intro w hSw
                  (try dsimp only at hSw)
                  first | (go_simp; done) | (go_simp; with_reducible rfl) | with_reducible rfl
                simp only [Act.put, List.setIfInBounds_toArray, List.set_cons_zero, List.set_cons_succ]
                refine tk (v := ?_) 13 ?_ ?_
                rotate_left
                · intro w hSw
                  (try dsimp only at hSw)
                  first | (go_simp; done) | (go_simp; with_reducible rfl) | with_reducible rfl
                simp only [Act.put, List.setIfInBounds_toArray, List.set_cons_zero, List.set_cons_succ]
                refine tk (v := ?_) 14 ?_ ?_
                rotate_left
                · intro w hSw
                  (try dsimp only at hSw)
                  first | (go_simp; done) | (go_simp; with_reducible rfl) | with_reducible rfl
                simp only [Act.put, List.setIfInBounds_toArray, List.set_cons_zero, List.set_cons_succ]
                refine tk (v := ?_) 15 ?_ ?_
                rotate_left
                · intro w hSw
                  (try dsimp only at hSw)
                  first | (go_simp; done) | (go_simp; with_reducible rfl) | with_reducible rfl
                simp only [Act.put, List.setIfInBounds_toArray, List.set_cons_zero, List.set_cons_succ]
                refine tk (v := ?_) 16 ?_ ?_
                rotate_left
                · intro w hSw
                  (try dsimp only at hSw)
                  first | (go_simp; done) | (go_simp; with_reducible rfl) | with_reducible rfl
                simp only [Act.put, List.setIfInBounds_toArray, List.set_cons_zero, List.set_cons_succ]
                refine tk (v := ?_) 17 ?_ ?_
                rotate_left
                · intro w hSw
                  (try dsimp only at hSw)
                  first | (go_simp; done) | (go_simp; with_reducible rfl) | with_reducible rfl
                simp only [Act.put, List.setIfInBounds_toArray, List.set_cons_zero, List.set_cons_succ]
                refine tk (v := ?_) 18 ?_ ?_
                rotate_left
                · intro w hSw
                  (try dsimp only at hSw)
                  first | (go_simp; done) | (go_simp; with_reducible rfl) | with_reducible rfl
                simp only [Act.put, List.setIfInBounds_toArray, List.set_cons_zero, List.set_cons_succ]
                refine wpAnyH_done (by kernel_rfl) ?_ _
                go_wp2
                refine ⟨⟨j3, by simp, by omega, fun j zz hj hz => ?_, HN2.out.drew⟩, by simp [intOf]⟩
                by_cases e : j = j3
                · subst e; rw [HY.out] at hz; cases hz; rw [HLK.out, HLY.out]; omega
                · exact HGT.out j zz (by omega) hz
              · go_wp2_with fail
                refine wp_region_held_drew (S := (fun w' => w'.cell? ⟨X, 1, none⟩ = some (.int .i64 z) ∧ w'.cell? ⟨R, 3, none⟩ = some (.slice (some ⟨ga, 0, none⟩) r.all.length ca) ∧ w'.cell? ⟨gd, j3, none⟩ = some (.int .i64 (y : Int)) ∧ w'.cell? ⟨ga, y * 2 + 1, none⟩ = some (.int .i64 zy))) (by kernel_rfl) ⟨x1, r3, hg0, p1⟩ (fun hHeld => ?_)
                refine tk (v := ?_) 0 ?_ ?_
                rotate_left
                · intro w hSw
                  (try dsimp only at hSw)
                  first | (go_simp; done) | (go_simp; with_reducible rfl) | with_reducible rfl
                simp only [Act.put, List.setIfInBounds_toArray, List.set_cons_zero, List.set_cons_succ]
                refine tk (v := ?_) 1 ?_ ?_
                rotate_left
                · intro w hSw
                  (try dsimp only at hSw)
                  first | (go_simp; done) | (go_simp; with_reducible rfl) | with_reducible rfl
                simp only [Act.put, List.setIfInBounds_toArray, List.set_cons_zero, List.set_cons_succ]
                refine tk (v := ?_) 2 ?_ ?_
                rotate_left
                · intro w hSw
                  (try dsimp only at hSw)
                  first | (go_simp; done) | (go_simp; with_reducible rfl) | with_reducible rfl
                simp only [Act.put, List.setIfInBounds_toArray, List.set_cons_zero, List.set_cons_succ]
                refine tk (v := ?_) 3 ?_ ?_
                rotate_left
                · intro w hSw
                  (try dsimp only at hSw)
                  first | (go_simp; done) | (go_simp; with_reducible rfl) | with_reducible rfl
                simp only [Act.put, List.setIfInBounds_toArray, List.set_cons_zero, List.set_cons_succ]
                refine tk (v := ?_) 4 ?_ ?_
                rotate_left
                · intro w hSw
                  (try dsimp only at hSw)
                  first | (go_simp; done) | (go_simp; with_reducible rfl) | with_reducible rfl
                simp only [Act.put, List.setIfInBounds_toArray, List.set_cons_zero, List.set_cons_succ]
                refine tk (v := ?_) 5 ?_ ?_
                rotate_left
                · intro w hSw
                  (try dsimp only at hSw)
                  first | (go_simp; done) | (go_simp; with_reducible rfl) | with_reducible rfl
                simp only [Act.put, List.setIfInBounds_toArray, List.set_cons_zero, List.set_cons_succ]
                refine tk (v := ?_) 6 ?_ ?_
                rotate_left
                · intro w hSw
                  (try dsimp only at hSw)
                  first | (go_simp; done) | (go_simp; with_reducible rfl) | with_reducible rfl
                simp only [Act.put, List.setIfInBounds_toArray, List.set_cons_zero, List.set_cons_succ]
                refine tk (v := ?_) 7 ?_ ?_
                rotate_left
                · intro w hSw
                  (try dsimp only at hSw)
                  first | (go_simp; done) | (go_simp; with_reducible rfl) | with_reducible rfl
                simp only [Act.put, List.setIfInBounds_toArray, List.set_cons_zero, List.set_cons_succ]
                refine tk (v := ?_) 8 ?_ ?_
                rotate_left
                · intro w hSw
                  (try dsimp only at hSw)
                  first | (go_simp; done) | (go_simp; with_reducible rfl) | with_reducible rfl
                simp only [Act.put, List.setIfInBounds_toArray, List.set_cons_zero, List.set_cons_succ]
                refine tk (v := ?_) 9 ?_ ?_
                rotate_left
                · intro w hSw
                  (try dsimp only at hSw)
                  first | (go_simp; done) | (go_simp; with_reducible rfl) | with_reducible rfl
                simp only [Act.put, List.setIfInBounds_toArray, List.set_cons_zero, List.set_cons_succ]
                refine tk (v := ?_) 10 ?_ ?_
                rotate_left
                · intro w hSw
                  (try dsimp only at hSw)
                  first | (go_simp; done) | (go_simp; with_reducible rfl) | with_reducible rfl
                simp only [Act.put, List.setIfInBounds_toArray, List.set_cons_zero, List.set_cons_succ]
                refine tk (v := ?_) 11 ?_ ?_
                rotate_left
                · intro w hSw
                  (try dsimp only at hSw)
                  first | (go_simp; done) | (go_simp; with_reducible rfl) | with_reducible rfl
                simp only [Act.put, List.setIfInBounds_toArray, List.set_cons_zero, List.set_cons_succ]
                refine tk (v := ?_) 12 ?_ ?_
                rotate_left
                · intro w hSw
                  (try dsimp only at hSw)
                  first | (go_simp; done) | (go_simp; with_reducible rfl) | with_reducible rfl
                simp only [Act.put, List.setIfInBounds_toArray, List.set_cons_zero, List.set_cons_succ]
                refine tk (v := ?_) 13 ?_ ?_
                rotate_left
                · intro w hSw
                  (try dsimp only at hSw)
                  first | (go_simp; done) | (go_simp; with_reducible rfl) | with_reducible rfl
                simp only [Act.put, List.setIfInBounds_toArray, List.set_cons_zero, List.set_cons_succ]
                refine tk (v := ?_) 14 ?_ ?_
                rotate_left
                · intro w hSw
                  (try dsimp only at hSw)
                  first | (go_simp; done) | (go_simp; with_reducible rfl) | with_reducible rfl
                simp only [Act.put, List.setIfInBounds_toArray, List.set_cons_zero, List.set_cons_succ]
                refine tk (v := ?_) 15 ?_ ?_
                rotate_left
                · intro w hSw
                  (try dsimp only at hSw)
                  first | (go_simp; done) | (go_simp; with_reducible rfl) | with_reducible rfl
                simp only [Act.put, List.setIfInBounds_toArray, List.set_cons_zero, List.set_cons_succ]
                refine tk (v := ?_) 16 ?_ ?_
                rotate_left
                · intro w hSw
                  (try dsimp only at hSw)
                  first | (go_simp; done) | (go_simp; with_reducible rfl) | with_reducible rfl
                simp only [Act.put, List.setIfInBounds_toArray, List.set_cons_zero, List.set_cons_succ]
                refine tk (v := ?_) 17 ?_ ?_
                rotate_left
                · intro w hSw
                  (try dsimp only at hSw)
                  first | (go_simp; done) | (go_simp; with_reducible rfl) | with_reducible rfl
                simp only [Act.put, List.setIfInBounds_toArray, List.set_cons_zero, List.set_cons_succ]
                refine tk (v := ?_) 18 ?_ ?_
                rotate_left
                · intro w hSw
                  (try dsimp only at hSw)
                  first | (go_simp; done) | (go_simp; with_reducible rfl) | with_reducible rfl
                simp only [Act.put, List.setIfInBounds_toArray, List.set_cons_zero, List.set_cons_succ]
                refine wpAnyH_done (by kernel_rfl) ?_ _
                have hins := hid (ins_okD (x := k) HPW.out hi9 HLT.out HGT.out (ins_h2D HY.out (by rw [HLK.out, HLY.out]; omega)))
                have N9 : Hid (New w wr.drew) := hid ((N5.out.trans HN2.out).drew)
                obtain ⟨B0, hB0⟩ : ∃ B0, B0 = wr.heap.size := ⟨_, rfl⟩
                have HB0 := hid hB0
                have HwB : Hid (w.heap.size ≤ B0) := hid (by rw [hB0]; exact N9.out.size)
                clear hB0
                obtain ⟨i, hiI⟩ : ∃ i : Nat, i = (j3 + 1) := ⟨_, rfl⟩
                rw [show ((j3 : Int) + 1) = (i : Int) by subst hiI; simp]
                rw [← hiI] at hins hi9
                obtain ⟨V1, hV1⟩ : ∃ V1, V1 = D.take i := ⟨_, rfl⟩
                obtain ⟨V2, hV2⟩ : ∃ V2, V2 = D.drop i := ⟨_, rfl⟩
                rw [← hV1, ← hV2] at hins
                have HL1 := hid (show V1.length = i by rw [hV1, List.length_take]; omega)
                have HL2 := hid (show V2.length = D.length - i by rw [hV2, List.length_drop])
                have OD := hid (show OwnI wr.drew w.heap.size (.slice (some ⟨gd, 0, none⟩) D.length vc) D from ownsP_new O6.out (Mod.refl _ _).drew)
                have HPA : Hid (∀ (j : Nat) (u : Value), (natRow V1)[j]? = some u → wr.drew.cell? ((⟨gd, 0, none⟩ : Addr).add j) = some u) := hid (OD.out.part 0 V1 (fun j y hy => by rw [hV1, List.getElem?_take] at hy; split at hy; rw [Nat.zero_add]; exact hy; cases hy))
                have HV2 : Hid (∀ (j : Nat) y, V2[j]? = some y → D[i + j]? = some y) := hid (fun j y hy => by rw [hV2, List.getElem?_drop] at hy; exact hy)
                have HgB : Hid (gd < B0) := hid (by rw [HB0.out]; exact HGG.out)
                clear hV1 hV2 hiI
                go_wp2_with (first | (at_builtin; go_loud (refine wpList_append_own_at _ rfl _ _ 96 rfl B0 3 i0 _ 1 8 Tryz.underlying96 hi hz0 hz1 hz2 rfl (by decide) (.slice none 0 0) 0 [] rfl ?owAYP ⟨gd, 0, none⟩ i vc (natRow V1) rfl ?hlAYP ?hnAYP ?h1AYP ?h63AYP ?hbyAYP ?hbaAYP ?_)) | fail)
                case owAYP => exact World.ownsRow_nil _ _ _ _
                case hlAYP => first | (rw [natRow_len, HL1.out]; done) | rw [natRow_len, HL1.out, Nat.mul_one]
                try (case hnAYP => exact fun j u hj => by have := HPA.out j u hj; first | exact this | (rw [addP, Nat.zero_add] at this; exact this))
                case h1AYP => exact nat_one _
                case h63AYP => unfold maxLen; omega
                case hbyAYP => omega
                try (case hbaAYP => have := HB0.out; simp; omega)
                intro o1 w1 r1 g1 hne1 hob1
                have NN1 : New wr.drew w1 := newGrownP (Mod.refl _ _) g1 (fun q hq => by cases hq)
                have N1 : Hid (New w w1) := hid (N9.out.trans NN1)
                have O1 := hid (OD.out.keep g1 (by simp [Value.ownBlock]))
                have R1 : Hid (w1.ownsRow B0 3 1 o1 i (natRow V1)) := hid (by simpa using r1)
                obtain ⟨sa, sc, rfl⟩ : ∃ sa sc, o1 = .slice sa i sc := by
                  rcases R1.out.2 with ⟨e, hz⟩ | ⟨g9, cap9, cur9, e, -⟩
                  · exact ⟨none, 0, by rw [e, hz]⟩
                  · exact ⟨_, _, e⟩
                have hgo1 := hid (show some gd ≠ (Value.slice sa i sc).ownBlock from fun e => by have := (World.ownsRow.lt R1.out gd e.symm).1; have := HgB.out; omega)
                have HB1 : Hid (B0 ≤ w1.heap.size) := hid (by have := NN1.size; have h2 := HB0.out; simp at this; omega)
                clear r1 g1 hne1 hob1 NN1
                go_wp2_with (first | (at_builtin; go_loud (refine wpList_append_own_at _ rfl _ _ 96 rfl B0 3 i0 _ 1 8 Tryz.underlying96 hi hz0 hz1 hz2 rfl (by decide) (.slice sa i sc) i (natRow V1) rfl ?owBYP ⟨w1.heap.size, 0, none⟩ 1 1 [.int .i64 (k : Int)] rfl ?hlBYP ?hnBYP ?h1BYP ?h63BYP ?hbyBYP ?hbaBYP ?_)) | fail)
                case owBYP => exact ownsP_new R1.out ((Mod.refl _ _).alloc _)
                case hlBYP => rfl
                try (case hnBYP => exact fun j u hj => by rw [addP]; match j, hj with | 0, hj => simp at hj; subst hj; exact (Blk.newAt (by simp)).cellv 0 rfl)
                try (case h1BYP => first | rfl | (intro u hu; simp at hu; subst hu; rfl))
                case h63BYP => unfold maxLen; omega
                case hbyBYP => omega
                try (case hbaBYP => have := HB1.out; simp; omega)
                intro o2 w2 r2 g2 hne2 hob2
                have N2 : Hid (New w w2) := hid (newGrownP (N1.out.alloc _) g2 (fun q hq => by have := (World.ownsRow.lt R1.out q hq).1; have := HwB.out; omega))
                have O2 : Hid (OwnI w2 w.heap.size (.slice (some ⟨gd, 0, none⟩) D.length vc) D) := hid (OwnI.keep (ownsP_new O1.out ((Mod.refl _ _).alloc _)) g2 hgo1.out)
                have R2 : Hid (w2.ownsRow B0 3 1 o2 (i + 1) (natRow V1 ++ [.int .i64 (k : Int)])) := hid r2
                obtain ⟨sb, sd, rfl⟩ : ∃ sb sd, o2 = .slice sb (i + 1) sd := by
                  rcases R2.out.2 with ⟨e, hz⟩ | ⟨g9, cap9, cur9, e, -⟩
                  · exact absurd hz (by simp)
                  · exact ⟨_, _, e⟩
                have HB2 : Hid (B0 ≤ w2.heap.size) := hid (by have := g2.size; have := HB1.out; simp at *; omega)
                clear r2 g2 hne2 hob2
                have HPC : Hid (∀ (j : Nat) (u : Value), (natRow V2)[j]? = some u → w2.cell? ((⟨gd, i, none⟩ : Addr).add j) = some u) := hid (O2.out.part i V2 HV2.out)
                by_cases hvi : vc = i
                · have hvi2 := hvi.symm
                  subst hvi2
                  clear hvi
                  have hV0 : V2 = [] := List.eq_nil_of_length_eq_zero (by have := HL2.out; omega)
                  have HV0 := hid hV0
                  clear hV0
                  have hUi : D.length - i = 0 := by omega
                  have HUI := hid hUi
                  clear hUi
                  go_wp2_with (first | (at_builtin; go_loud (refine wpList_append_own_at _ rfl _ _ 96 rfl B0 3 i0 _ 1 8 Tryz.underlying96 hi hz0 hz1 hz2 rfl (by decide) (.slice sb (i + 1) sd) (i + 1) (natRow V1 ++ [.int .i64 (k : Int)]) rfl ?owCYP ⟨gd, 0, none⟩ 0 0 (natRow V2) rfl ?hlCYP ?hnCYP ?h1CYP ?h63CYP ?hbyCYP ?hbaCYP ?_)) | fail)
                  case owCYP => exact R2.out
                  case hlCYP => (rw [HV0.out]; rfl)
                  try (case hnCYP => exact fun j u hj => by first | exact ((fun j u hj => by rw [HV0.out] at hj; simp [natRow] at hj)) j u hj | (have := ((fun j u hj => by rw [HV0.out] at hj; simp [natRow] at hj)) j u hj; rw [addP] at this; exact this) | (exfalso; rw [HV0.out] at hj; simp [natRow] at hj))
                  case h1CYP => exact nat_one _
                  case h63CYP => unfold maxLen; omega
                  case hbyCYP => omega
                  case hbaCYP => exact HB2.out
                  intro o3 w3 r3 g3 hne3 hob3
                  have N3 : Hid (New w w3) := hid (newGrownP N2.out g3 (fun q hq => by have := (World.ownsRow.lt R2.out q hq).1; have := HwB.out; omega))
                  have R3 : Hid (OwnI w3 B0 o3 (V1 ++ k :: V2)) := hid (by
                    unfold OwnI
                    rw [natRow_app, show natRow (k :: V2) = [.int .i64 (k : Int)] ++ natRow V2 from rfl, ← List.append_assoc, List.length_append, List.length_cons, HL1.out, HL2.out, show i + (D.length - i + 1) = i + 1 + (D.length - i) by omega]
                    first | exact r3 | (rw [List.append_assoc]; exact r3) | (rw [HUI.out]; exact r3) | (rw [HUI.out, List.append_assoc]; exact r3))
                  clear r3 g3 hne3 hob3
                  go_wp2
                  exact ⟨⟨k + 1, _, V1 ++ k :: V2, by simp, rfl, by omega, R3.out.base HwB.out, by rw [range_filter_next, if_pos HC.out]; exact hins.out.2.trans ((List.Perm.cons _ HPM.out).trans (List.perm_append_comm (l₁ := [k]))), hins.out.1, N3.out⟩, by simp [intOf]; omega⟩
                · have HUI : Hid (0 = 0) := hid rfl
                  have HV0 : Hid (0 = 0) := hid rfl
                  go_wp2_with (first | (at_builtin; go_loud (refine wpList_append_own_at _ rfl _ _ 96 rfl B0 3 i0 _ 1 8 Tryz.underlying96 hi hz0 hz1 hz2 rfl (by decide) (.slice sb (i + 1) sd) (i + 1) (natRow V1 ++ [.int .i64 (k : Int)]) rfl ?owDYP ⟨gd, i, none⟩ (D.length - i) (vc - i) (natRow V2) rfl ?hlDYP ?hnDYP ?h1DYP ?h63DYP ?hbyDYP ?hbaDYP ?_)) | fail)
                  case owDYP => exact R2.out
                  case hlDYP => (first | (rw [natRow_len, HL2.out]; done) | rw [natRow_len, HL2.out, Nat.mul_one])
                  try (case hnDYP => exact fun j u hj => by first | exact (HPC.out) j u hj | (have := (HPC.out) j u hj; rw [addP] at this; exact this) | (exfalso; rw [HV0.out] at hj; simp [natRow] at hj))
                  case h1DYP => exact nat_one _
                  case h63DYP => unfold maxLen; omega
                  case hbyDYP => omega
                  case hbaDYP => exact HB2.out
                  intro o3 w3 r3 g3 hne3 hob3
                  have N3 : Hid (New w w3) := hid (newGrownP N2.out g3 (fun q hq => by have := (World.ownsRow.lt R2.out q hq).1; have := HwB.out; omega))
                  have R3 : Hid (OwnI w3 B0 o3 (V1 ++ k :: V2)) := hid (by
                    unfold OwnI
                    rw [natRow_app, show natRow (k :: V2) = [.int .i64 (k : Int)] ++ natRow V2 from rfl, ← List.append_assoc, List.length_append, List.length_cons, HL1.out, HL2.out, show i + (D.length - i + 1) = i + 1 + (D.length - i) by omega]
                    first | exact r3 | (rw [List.append_assoc]; exact r3) | (rw [HUI.out]; exact r3) | (rw [HUI.out, List.append_assoc]; exact r3))
                  clear r3 g3 hne3 hob3
                  go_wp2
                  exact ⟨⟨k + 1, _, V1 ++ k :: V2, by simp, rfl, by omega, R3.out.base HwB.out, by rw [range_filter_next, if_pos HC.out]; exact hins.out.2.trans ((List.Perm.cons _ HPM.out).trans (List.perm_append_comm (l₁ := [k]))), hins.out.1, N3.out⟩, by simp [intOf]; omega⟩
        · have hz8 : r.every ≤ t - z := by omega
          have hz7 : 0 ≤ z := by omega
          have hz6 : ¬ t - z < r.every := by omega
          have e9 : decide (0 ≤ z) = true := decide_eq_true hz7
          have e8 : decide (z ≥ 0) = true := decide_eq_true hz7
          go_wp2_with fail
          refine wp_region_held_drew (S := (fun w' => w'.cell? ⟨wr.heap.size, 1, none⟩ = some (.int .i64 z) ∧ w'.cell? ⟨R, 2, none⟩ = some (.int .i64 r.every))) (by kernel_rfl) ⟨x1, r2⟩ (fun hHeld => ?_)
          refine tk (v := ?_) 0 ?_ ?_
          rotate_left
          · intro w hSw
            (try dsimp only at hSw)
            first | (go_simp; done) | (go_simp; with_reducible rfl) | with_reducible rfl
          simp only [Act.put, List.setIfInBounds_toArray, List.set_cons_zero, List.set_cons_succ]
          refine tk (v := ?_) 1 ?_ ?_
          rotate_left
          · intro w hSw
            (try dsimp only at hSw)
            first | (go_simp; done) | (go_simp; with_reducible rfl) | with_reducible rfl
          simp only [Act.put, List.setIfInBounds_toArray, List.set_cons_zero, List.set_cons_succ]
          refine tk (v := ?_) 2 ?_ ?_
          rotate_left
          · intro w hSw
            (try dsimp only at hSw)
            first | (go_simp; done) | (go_simp; with_reducible rfl) | with_reducible rfl
          simp only [Act.put, List.setIfInBounds_toArray, List.set_cons_zero, List.set_cons_succ]
          refine tk (v := ?_) 3 ?_ ?_
          rotate_left
          · intro w hSw
            (try dsimp only at hSw)
            first | (go_simp; done) | (go_simp; with_reducible rfl) | with_reducible rfl
          simp only [Act.put, List.setIfInBounds_toArray, List.set_cons_zero, List.set_cons_succ]
          refine tk (v := ?_) 4 ?_ ?_
          rotate_left
          · intro w hSw
            (try dsimp only at hSw)
            first | (go_simp; done) | (go_simp; with_reducible rfl) | with_reducible rfl
          simp only [Act.put, List.setIfInBounds_toArray, List.set_cons_zero, List.set_cons_succ]
          refine tk (v := ?_) 5 ?_ ?_
          rotate_left
          · intro w hSw
            (try dsimp only at hSw)
            first | (go_simp; done) | (go_simp; with_reducible rfl) | with_reducible rfl
          simp only [Act.put, List.setIfInBounds_toArray, List.set_cons_zero, List.set_cons_succ]
          refine tk (v := ?_) 6 ?_ ?_
          rotate_left
          · intro w hSw
            (try dsimp only at hSw)
            first | (go_simp; done) | (go_simp; with_reducible rfl) | with_reducible rfl
          simp only [Act.put, List.setIfInBounds_toArray, List.set_cons_zero, List.set_cons_succ]
          refine tk (v := ?_) 7 ?_ ?_
          rotate_left
          · intro w hSw
            (try dsimp only at hSw)
            first | (go_simp; done) | (go_simp; with_reducible rfl) | with_reducible rfl
          simp only [Act.put, List.setIfInBounds_toArray, List.set_cons_zero, List.set_cons_succ]
          refine tk (v := ?_) 8 ?_ ?_
          rotate_left
          · intro w hSw
            (try dsimp only at hSw)
            first | (go_simp; done) | (go_simp; with_reducible rfl) | with_reducible rfl
          simp only [Act.put, List.setIfInBounds_toArray, List.set_cons_zero, List.set_cons_succ]
          refine tk (v := ?_) 9 ?_ ?_
          rotate_left
          · intro w hSw
            (try dsimp only at hSw)
            first | (go_simp; done) | (go_simp; with_reducible rfl) | with_reducible rfl
          simp only [Act.put, List.setIfInBounds_toArray, List.set_cons_zero, List.set_cons_succ]
          refine tk (v := ?_) 10 ?_ ?_
          rotate_left
          · intro w hSw
            (try dsimp only at hSw)
            first | (go_simp; done) | (go_simp; with_reducible rfl) | with_reducible rfl
          simp only [Act.put, List.setIfInBounds_toArray, List.set_cons_zero, List.set_cons_succ]
          refine tk (v := ?_) 11 ?_ ?_
          rotate_left
          · intro w hSw
            (try dsimp only at hSw)
            first | (go_simp; done) | (go_simp; with_reducible rfl) | with_reducible rfl
          simp only [Act.put, List.setIfInBounds_toArray, List.set_cons_zero, List.set_cons_succ]
          refine tk (v := ?_) 12 ?_ ?_
          rotate_left
          · intro w hSw
            (try dsimp only at hSw)
            first | (go_simp; done) | (go_simp; with_reducible rfl) | with_reducible rfl
          simp only [Act.put, List.setIfInBounds_toArray, List.set_cons_zero, List.set_cons_succ]
          refine tk (v := ?_) 13 ?_ ?_
          rotate_left
          · intro w hSw
            (try dsimp only at hSw)
            first | (go_simp; done) | (go_simp; with_reducible rfl) | with_reducible rfl
          simp only [Act.put, List.setIfInBounds_toArray, List.set_cons_zero, List.set_cons_succ]
          refine wpAnyH_done (by kernel_rfl) ?_ _
          rw [← h5, ← hX]
          clear h5 hX x1 r2 q0 q1 hg
          go_wp2_with fail
          go_loopw [8] (fun x wr => ∃ i : Nat, x = .int .i64 i ∧ i ≤ D.length ∧ (∀ j y, i ≤ j → D[j]? = some y → lastD r.all k < lastD r.all y) ∧ New w5 wr) (fun x _ => (intOf x).toNat)
          case atStart => exact ⟨D.length, rfl, Nat.le_refl _, fun j y hj hy => (by rw [List.getElem?_eq_none hj] at hy; cases hy), Mod.refl _ _⟩
          case round =>
            obtain ⟨i, rfl, hi9, hgt, hn⟩ := hrel
            have HGT := hid hgt; have HN2 := hid hn
            have X6 := hid (New.blk hn X5.out)
            have x1 : wr.cell? ⟨X, 1, none⟩ = some (.int .i64 z) := X6.out.cellv 1 rfl
            have xl := X6.out.lt
            have O6 := hid (show OwnI wr w.heap.size (.slice va D.length vc) D from ownsP_new O5.out hn)
            have RR := hid (HR.out.new (N5.out.trans hn))
            have r3 : wr.cell? ⟨R, 3, none⟩ = some (.slice (some ⟨ga, 0, none⟩) r.all.length ca) := RR.out.row.cellv 3 rfl
            have rl := RR.out.row.lt
            clear hgt hn
            by_cases h0 : i = 0
            · subst h0
              go_wp2_with fail
              refine wp_region_held_drew (S := (fun w' => True)) (by kernel_rfl) trivial (fun hHeld => ?_)
              refine tk (v := ?_) 0 ?_ ?_
              rotate_left
              · intro w hSw
                (try dsimp only at hSw)
                first | (go_simp; done) | (go_simp; with_reducible rfl) | with_reducible rfl
              simp only [Act.put, List.setIfInBounds_toArray, List.set_cons_zero, List.set_cons_succ]
              refine tk (v := ?_) 1 ?_ ?_
              rotate_left
              · intro w hSw
                (try dsimp only at hSw)
                first | (go_simp; done) | (go_simp; with_reducible rfl) | with_reducible rfl
              simp only [Act.put, List.setIfInBounds_toArray, List.set_cons_zero, List.set_cons_succ]
              refine tk (v := ?_) 2 ?_ ?_
              rotate_left
              · intro w hSw
                (try dsimp only at hSw)
                first | (go_simp; done) | (go_simp; with_reducible rfl) | with_reducible rfl
              simp only [Act.put, List.setIfInBounds_toArray, List.set_cons_zero, List.set_cons_succ]
              refine sk 3 ?_
              simp only [Act.put, List.setIfInBounds_toArray, List.set_cons_zero, List.set_cons_succ]
              refine sk 4 ?_
              simp only [Act.put, List.setIfInBounds_toArray, List.set_cons_zero, List.set_cons_succ]
              refine sk 5 ?_
              simp only [Act.put, List.setIfInBounds_toArray, List.set_cons_zero, List.set_cons_succ]
              refine sk 6 ?_
              simp only [Act.put, List.setIfInBounds_toArray, List.set_cons_zero, List.set_cons_succ]
              refine sk 7 ?_
              simp only [Act.put, List.setIfInBounds_toArray, List.set_cons_zero, List.set_cons_succ]
              refine sk 8 ?_
              simp only [Act.put, List.setIfInBounds_toArray, List.set_cons_zero, List.set_cons_succ]
              refine sk 9 ?_
              simp only [Act.put, List.setIfInBounds_toArray, List.set_cons_zero, List.set_cons_succ]
              refine sk 10 ?_
              simp only [Act.put, List.setIfInBounds_toArray, List.set_cons_zero, List.set_cons_succ]
              refine sk 11 ?_
              simp only [Act.put, List.setIfInBounds_toArray, List.set_cons_zero, List.set_cons_succ]
              refine sk 12 ?_
              simp only [Act.put, List.setIfInBounds_toArray, List.set_cons_zero, List.set_cons_succ]
              refine sk 13 ?_
              simp only [Act.put, List.setIfInBounds_toArray, List.set_cons_zero, List.set_cons_succ]
              refine sk 14 ?_
              simp only [Act.put, List.setIfInBounds_toArray, List.set_cons_zero, List.set_cons_succ]
              refine sk 15 ?_
              simp only [Act.put, List.setIfInBounds_toArray, List.set_cons_zero, List.set_cons_succ]
              refine sk 16 ?_
              simp only [Act.put, List.setIfInBounds_toArray, List.set_cons_zero, List.set_cons_succ]
              refine sk 17 ?_
              simp only [Act.put, List.setIfInBounds_toArray, List.set_cons_zero, List.set_cons_succ]
              refine tk (v := ?_) 18 ?_ ?_
              rotate_left
              · intro w hSw
                (try dsimp only at hSw)
                first | (go_simp; done) | (go_simp; with_reducible rfl) | with_reducible rfl
              simp only [Act.put, List.setIfInBounds_toArray, List.set_cons_zero, List.set_cons_succ]
              refine wpAnyH_done (by kernel_rfl) ?_ _
              have hins := hid (ins_okD (x := k) HPW.out hi9 HLT.out HGT.out (fun j y hj _ => by omega))
              have N9 : Hid (New w wr.drew) := hid ((N5.out.trans HN2.out).drew)
              obtain ⟨B0, hB0⟩ : ∃ B0, B0 = wr.heap.size := ⟨_, rfl⟩
              have HB0 := hid hB0
              have HwB : Hid (w.heap.size ≤ B0) := hid (by rw [hB0]; exact N9.out.size)
              clear hB0
              rcases O6.out.2 with ⟨hv, hz⟩ | ⟨gd, cap, cur, hv, hbg, hgd, hcap1, hcap2, -⟩
              · injection hv with e1 e2 e3
                subst e1
                subst e3
                obtain rfl : D = [] := List.eq_nil_of_length_eq_zero hz
                clear hz e2
                go_wp2_with (first | (at_builtin; refine wpList_append_own_none rfl _ _ 96 rfl B0 3 i0 1 Tryz.underlying96 hi (.slice none 0 0) 0 [] rfl (World.ownsRow_nil _ _ _ _) rfl ?_) | (at_builtin; go_loud (refine wpList_append_own_at _ rfl _ _ 96 rfl B0 3 i0 _ 1 8 Tryz.underlying96 hi hz0 hz1 hz2 rfl (by decide) (.slice none 0 0) 0 [] rfl ?owNB ⟨wr.heap.size, 0, none⟩ 1 1 [.int .i64 (k : Int)] rfl ?hlNB ?hnNB ?h1NB ?h63NB ?hbyNB ?hbaNB ?_)) | fail)
                case owNB => exact World.ownsRow_nil _ _ _ _
                case hlNB => rfl
                try (case hnNB => exact fun j u hj => by rw [addP]; match j, hj with | 0, hj => simp at hj; subst hj; exact (Blk.newAt (by simp)).cellv 0 rfl)
                try (case h1NB => first | rfl | (intro u hu; simp at hu; subst hu; rfl))
                case h63NB => unfold maxLen; omega
                case hbyNB => omega
                try (case hbaNB => have := HB0.out; simp; omega)
                intro o2 w2 r2 g2 hne2 hob2
                have N2 : Hid (New w w2) := hid (newGrownP (N9.out.alloc _) g2 (fun q hq => by cases hq))
                have R2 : Hid (OwnI w2 B0 o2 [k]) := hid (by
                  have := r2
                  simpa [OwnI, natRow] using this)
                obtain ⟨sa, sc, rfl⟩ : ∃ sa sc, o2 = .slice sa 1 sc := by
                  rcases R2.out.2 with ⟨e, hz⟩ | ⟨g9, cap9, cur9, e, -⟩
                  · exact absurd hz (by simp)
                  · exact ⟨_, _, e⟩
                clear r2 g2 hne2 hob2
                go_wp2_with (first | (at_builtin; refine wpList_append_own_none rfl _ _ 96 rfl B0 3 i0 1 Tryz.underlying96 hi (.slice sa 1 sc) 1 (natRow [k]) rfl R2.out rfl ?_) | fail)
                exact ⟨⟨k + 1, _, [k], by simp, rfl, by omega, R2.out.base HwB.out, by rw [range_filter_next, if_pos HC.out]; have := HPM.out.length_eq; rw [List.eq_nil_of_length_eq_zero this.symm]; exact List.Perm.refl _, List.pairwise_singleton _ _, N2.out⟩, by simp [intOf]; omega⟩
              · injection hv with e1 e2 e3
                subst e1
                subst e3
                have HGG := hid (Array.getElem?_eq_some_iff.1 hgd).1
                clear hgd
                obtain ⟨i, hiI⟩ : ∃ i : Nat, i = 0 := ⟨_, rfl⟩
                rw [show ((0 : Nat) : Int) = (i : Int) by subst hiI; simp]
                rw [← hiI] at hins hi9
                obtain ⟨V1, hV1⟩ : ∃ V1, V1 = D.take i := ⟨_, rfl⟩
                obtain ⟨V2, hV2⟩ : ∃ V2, V2 = D.drop i := ⟨_, rfl⟩
                rw [← hV1, ← hV2] at hins
                have HL1 := hid (show V1.length = i by rw [hV1, List.length_take]; omega)
                have HL2 := hid (show V2.length = D.length - i by rw [hV2, List.length_drop])
                have OD := hid (show OwnI wr.drew w.heap.size (.slice (some ⟨gd, 0, none⟩) D.length vc) D from ownsP_new O6.out (Mod.refl _ _).drew)
                have HPA : Hid (∀ (j : Nat) (u : Value), (natRow V1)[j]? = some u → wr.drew.cell? ((⟨gd, 0, none⟩ : Addr).add j) = some u) := hid (OD.out.part 0 V1 (fun j y hy => by rw [hV1, List.getElem?_take] at hy; split at hy; rw [Nat.zero_add]; exact hy; cases hy))
                have HV2 : Hid (∀ (j : Nat) y, V2[j]? = some y → D[i + j]? = some y) := hid (fun j y hy => by rw [hV2, List.getElem?_drop] at hy; exact hy)
                have HgB : Hid (gd < B0) := hid (by rw [HB0.out]; exact HGG.out)
                clear hV1 hV2 hiI
                go_wp2_with (first | (at_builtin; go_loud (refine wpList_append_own_at _ rfl _ _ 96 rfl B0 3 i0 _ 1 8 Tryz.underlying96 hi hz0 hz1 hz2 rfl (by decide) (.slice none 0 0) 0 [] rfl ?owAZQ ⟨gd, 0, none⟩ i vc (natRow V1) rfl ?hlAZQ ?hnAZQ ?h1AZQ ?h63AZQ ?hbyAZQ ?hbaAZQ ?_)) | fail)
                case owAZQ => exact World.ownsRow_nil _ _ _ _
                case hlAZQ => first | (rw [natRow_len, HL1.out]; done) | rw [natRow_len, HL1.out, Nat.mul_one]
                try (case hnAZQ => exact fun j u hj => by have := HPA.out j u hj; first | exact this | (rw [addP, Nat.zero_add] at this; exact this))
                case h1AZQ => exact nat_one _
                case h63AZQ => unfold maxLen; omega
                case hbyAZQ => omega
                try (case hbaAZQ => have := HB0.out; simp; omega)
                intro o1 w1 r1 g1 hne1 hob1
                have NN1 : New wr.drew w1 := newGrownP (Mod.refl _ _) g1 (fun q hq => by cases hq)
                have N1 : Hid (New w w1) := hid (N9.out.trans NN1)
                have O1 := hid (OD.out.keep g1 (by simp [Value.ownBlock]))
                have R1 : Hid (w1.ownsRow B0 3 1 o1 i (natRow V1)) := hid (by simpa using r1)
                obtain ⟨sa, sc, rfl⟩ : ∃ sa sc, o1 = .slice sa i sc := by
                  rcases R1.out.2 with ⟨e, hz⟩ | ⟨g9, cap9, cur9, e, -⟩
                  · exact ⟨none, 0, by rw [e, hz]⟩
                  · exact ⟨_, _, e⟩
                have hgo1 := hid (show some gd ≠ (Value.slice sa i sc).ownBlock from fun e => by have := (World.ownsRow.lt R1.out gd e.symm).1; have := HgB.out; omega)
                have HB1 : Hid (B0 ≤ w1.heap.size) := hid (by have := NN1.size; have h2 := HB0.out; simp at this; omega)
                clear r1 g1 hne1 hob1 NN1
                go_wp2_with (first | (at_builtin; go_loud (refine wpList_append_own_at _ rfl _ _ 96 rfl B0 3 i0 _ 1 8 Tryz.underlying96 hi hz0 hz1 hz2 rfl (by decide) (.slice sa i sc) i (natRow V1) rfl ?owBZQ ⟨w1.heap.size, 0, none⟩ 1 1 [.int .i64 (k : Int)] rfl ?hlBZQ ?hnBZQ ?h1BZQ ?h63BZQ ?hbyBZQ ?hbaBZQ ?_)) | fail)
                case owBZQ => exact ownsP_new R1.out ((Mod.refl _ _).alloc _)
                case hlBZQ => rfl
                try (case hnBZQ => exact fun j u hj => by rw [addP]; match j, hj with | 0, hj => simp at hj; subst hj; exact (Blk.newAt (by simp)).cellv 0 rfl)
                try (case h1BZQ => first | rfl | (intro u hu; simp at hu; subst hu; rfl))
                case h63BZQ => unfold maxLen; omega
                case hbyBZQ => omega
                try (case hbaBZQ => have := HB1.out; simp; omega)
                intro o2 w2 r2 g2 hne2 hob2
                have N2 : Hid (New w w2) := hid (newGrownP (N1.out.alloc _) g2 (fun q hq => by have := (World.ownsRow.lt R1.out q hq).1; have := HwB.out; omega))
                have O2 : Hid (OwnI w2 w.heap.size (.slice (some ⟨gd, 0, none⟩) D.length vc) D) := hid (OwnI.keep (ownsP_new O1.out ((Mod.refl _ _).alloc _)) g2 hgo1.out)
                have R2 : Hid (w2.ownsRow B0 3 1 o2 (i + 1) (natRow V1 ++ [.int .i64 (k : Int)])) := hid r2
                obtain ⟨sb, sd, rfl⟩ : ∃ sb sd, o2 = .slice sb (i + 1) sd := by
                  rcases R2.out.2 with ⟨e, hz⟩ | ⟨g9, cap9, cur9, e, -⟩
                  · exact absurd hz (by simp)
                  · exact ⟨_, _, e⟩
                have HB2 : Hid (B0 ≤ w2.heap.size) := hid (by have := g2.size; have := HB1.out; simp at *; omega)
                clear r2 g2 hne2 hob2
                have HPC : Hid (∀ (j : Nat) (u : Value), (natRow V2)[j]? = some u → w2.cell? ((⟨gd, i, none⟩ : Addr).add j) = some u) := hid (O2.out.part i V2 HV2.out)
                by_cases hvi : vc = i
                · have hvi2 := hvi.symm
                  subst hvi2
                  clear hvi
                  have hV0 : V2 = [] := List.eq_nil_of_length_eq_zero (by have := HL2.out; omega)
                  have HV0 := hid hV0
                  clear hV0
                  have hUi : D.length - i = 0 := by omega
                  have HUI := hid hUi
                  clear hUi
                  go_wp2_with (first | (at_builtin; go_loud (refine wpList_append_own_at _ rfl _ _ 96 rfl B0 3 i0 _ 1 8 Tryz.underlying96 hi hz0 hz1 hz2 rfl (by decide) (.slice sb (i + 1) sd) (i + 1) (natRow V1 ++ [.int .i64 (k : Int)]) rfl ?owCZQ ⟨gd, 0, none⟩ 0 0 (natRow V2) rfl ?hlCZQ ?hnCZQ ?h1CZQ ?h63CZQ ?hbyCZQ ?hbaCZQ ?_)) | fail)
                  case owCZQ => exact R2.out
                  case hlCZQ => (rw [HV0.out]; rfl)
                  try (case hnCZQ => exact fun j u hj => by first | exact ((fun j u hj => by rw [HV0.out] at hj; simp [natRow] at hj)) j u hj | (have := ((fun j u hj => by rw [HV0.out] at hj; simp [natRow] at hj)) j u hj; rw [addP] at this; exact this) | (exfalso; rw [HV0.out] at hj; simp [natRow] at hj))
                  case h1CZQ => exact nat_one _
                  case h63CZQ => unfold maxLen; omega
                  case hbyCZQ => omega
                  case hbaCZQ => exact HB2.out
                  intro o3 w3 r3 g3 hne3 hob3
                  have N3 : Hid (New w w3) := hid (newGrownP N2.out g3 (fun q hq => by have := (World.ownsRow.lt R2.out q hq).1; have := HwB.out; omega))
                  have R3 : Hid (OwnI w3 B0 o3 (V1 ++ k :: V2)) := hid (by
                    unfold OwnI
                    rw [natRow_app, show natRow (k :: V2) = [.int .i64 (k : Int)] ++ natRow V2 from rfl, ← List.append_assoc, List.length_append, List.length_cons, HL1.out, HL2.out, show i + (D.length - i + 1) = i + 1 + (D.length - i) by omega]
                    first | exact r3 | (rw [List.append_assoc]; exact r3) | (rw [HUI.out]; exact r3) | (rw [HUI.out, List.append_assoc]; exact r3))
                  clear r3 g3 hne3 hob3
                  go_wp2
                  exact ⟨⟨k + 1, _, V1 ++ k :: V2, by simp, rfl, by omega, R3.out.base HwB.out, by rw [range_filter_next, if_pos HC.out]; exact hins.out.2.trans ((List.Perm.cons _ HPM.out).trans (List.perm_append_comm (l₁ := [k]))), hins.out.1, N3.out⟩, by simp [intOf]; omega⟩
                · have HUI : Hid (0 = 0) := hid rfl
                  have HV0 : Hid (0 = 0) := hid rfl
                  go_wp2_with (first | (at_builtin; go_loud (refine wpList_append_own_at _ rfl _ _ 96 rfl B0 3 i0 _ 1 8 Tryz.underlying96 hi hz0 hz1 hz2 rfl (by decide) (.slice sb (i + 1) sd) (i + 1) (natRow V1 ++ [.int .i64 (k : Int)]) rfl ?owDZQ ⟨gd, i, none⟩ (D.length - i) (vc - i) (natRow V2) rfl ?hlDZQ ?hnDZQ ?h1DZQ ?h63DZQ ?hbyDZQ ?hbaDZQ ?_)) | fail)
                  case owDZQ => exact R2.out
                  case hlDZQ => (first | (rw [natRow_len, HL2.out]; done) | rw [natRow_len, HL2.out, Nat.mul_one])
                  try (case hnDZQ => exact fun j u hj => by first | exact (HPC.out) j u hj | (have := (HPC.out) j u hj; rw [addP] at this; exact this) | (exfalso; rw [HV0.out] at hj; simp [natRow] at hj))
                  case h1DZQ => exact nat_one _
                  case h63DZQ => unfold maxLen; omega
                  case hbyDZQ => omega
                  case hbaDZQ => exact HB2.out
                  intro o3 w3 r3 g3 hne3 hob3
                  have N3 : Hid (New w w3) := hid (newGrownP N2.out g3 (fun q hq => by have := (World.ownsRow.lt R2.out q hq).1; have := HwB.out; omega))
                  have R3 : Hid (OwnI w3 B0 o3 (V1 ++ k :: V2)) := hid (by
                    unfold OwnI
                    rw [natRow_app, show natRow (k :: V2) = [.int .i64 (k : Int)] ++ natRow V2 from rfl, ← List.append_assoc, List.length_append, List.length_cons, HL1.out, HL2.out, show i + (D.length - i + 1) = i + 1 + (D.length - i) by omega]
                    first | exact r3 | (rw [List.append_assoc]; exact r3) | (rw [HUI.out]; exact r3) | (rw [HUI.out, List.append_assoc]; exact r3))
                  clear r3 g3 hne3 hob3
                  go_wp2
                  exact ⟨⟨k + 1, _, V1 ++ k :: V2, by simp, rfl, by omega, R3.out.base HwB.out, by rw [range_filter_next, if_pos HC.out]; exact hins.out.2.trans ((List.Perm.cons _ HPM.out).trans (List.perm_append_comm (l₁ := [k]))), hins.out.1, N3.out⟩, by simp [intOf]; omega⟩
            · obtain ⟨j3, rfl⟩ : ∃ j3, i = j3 + 1 := ⟨i - 1, by omega⟩
              rcases O6.out.2 with ⟨hv, hz⟩ | ⟨gd, cap, cur, hv, hbg, hgd, hcap1, hcap2, -⟩
              · omega
              injection hv with e1 e2 e3
              subst e1
              subst e3
              have hj20 : j3 ≤ 200 := by omega
              have hjU : (j3 : Int) < (D.length : Int) := by omega
              have hwj : IntKind.i64.wrap (j3 : Int) = (j3 : Int) := by rw [IntKind.wrap_i64]; omega
              obtain ⟨y, hy⟩ : ∃ y, D[j3]? = some y := ⟨_, List.getElem?_eq_getElem (by omega)⟩
              have hg0 : wr.cell? ⟨gd, j3, none⟩ = some (.int .i64 (y : Int)) := O6.out.cell hy
              have hyk := HLT.out y (List.mem_of_getElem? hy)
              have hyl : y < r.all.length := by omega
              have hyI : (y : Int) < (r.all.length : Int) := by omega
              obtain ⟨g9, e9, hg9, -, p1, -, -⟩ := RR.out.all.get hyl
              cases e9
              have hly := lastD_at hyl
              obtain ⟨zy, hzy⟩ : ∃ zy, zy = r.all[y].2 := ⟨_, rfl⟩
              rw [← hzy] at p1 hly
              have HLY := hid hly
              have hgl : gd < wr.heap.size := (Array.getElem?_eq_some_iff.1 hgd).1
              have HY := hid hy
              have HGG := hid hgl
              clear hgd hy hly hzy
              by_cases hcmp : z < zy
              · go_wp2_with fail
                refine wp_region_held_drew (S := (fun w' => w'.cell? ⟨X, 1, none⟩ = some (.int .i64 z) ∧ w'.cell? ⟨R, 3, none⟩ = some (.slice (some ⟨ga, 0, none⟩) r.all.length ca) ∧ w'.cell? ⟨gd, j3, none⟩ = some (.int .i64 (y : Int)) ∧ w'.cell? ⟨ga, y * 2 + 1, none⟩ = some (.int .i64 zy))) (by kernel_rfl) ⟨x1, r3, hg0, p1⟩ (fun hHeld => ?_)
                refine tk (v := ?_) 0 ?_ ?_
                rotate_left
                · intro w hSw
                  (try dsimp only at hSw)
                  first | (go_simp; done) | (go_simp; with_reducible rfl) | with_reducible rfl
                simp only [Act.put, List.setIfInBounds_toArray, List.set_cons_zero, List.set_cons_succ]
                refine tk (v := ?_) 1 ?_ ?_
                rotate_left
                · intro w hSw
                  (try dsimp only at hSw)
                  first | (go_simp; done) | (go_simp; with_reducible rfl) | with_reducible rfl
                simp only [Act.put, List.setIfInBounds_toArray, List.set_cons_zero, List.set_cons_succ]
                refine tk (v := ?_) 2 ?_ ?_
                rotate_left
                · intro w hSw
                  (try dsimp only at hSw)
                  first | (go_simp; done) | (go_simp; with_reducible rfl) | with_reducible rfl
                simp only [Act.put, List.setIfInBounds_toArray, List.set_cons_zero, List.set_cons_succ]
                refine tk (v := ?_) 3 ?_ ?_
                rotate_left
                · intro w hSw
                  (try dsimp only at hSw)
                  first | (go_simp; done) | (go_simp; with_reducible rfl) | with_reducible rfl
                simp only [Act.put, List.setIfInBounds_toArray, List.set_cons_zero, List.set_cons_succ]
                refine tk (v := ?_) 4 ?_ ?_
                rotate_left
                · intro w hSw
                  (try dsimp only at hSw)
                  first | (go_simp; done) | (go_simp; with_reducible rfl) | with_reducible rfl
                simp only [Act.put, List.setIfInBounds_toArray, List.set_cons_zero, List.set_cons_succ]
                refine tk (v := ?_) 5 ?_ ?_
                rotate_left
                · intro w hSw
                  (try dsimp only at hSw)
                  first | (go_simp; done) | (go_simp; with_reducible rfl) | with_reducible rfl
                simp only [Act.put, List.setIfInBounds_toArray, List.set_cons_zero, List.set_cons_succ]
                refine tk (v := ?_) 6 ?_ ?_
                rotate_left
                · intro w hSw
                  (try dsimp only at hSw)
                  first | (go_simp; done) | (go_simp; with_reducible rfl) | with_reducible rfl
                simp only [Act.put, List.setIfInBounds_toArray, List.set_cons_zero, List.set_cons_succ]
                refine tk (v := ?_) 7 ?_ ?_
                rotate_left
                · intro w hSw
                  (try dsimp only at hSw)
                  first | (go_simp; done) | (go_simp; with_reducible rfl) | with_reducible rfl
                simp only [Act.put, List.setIfInBounds_toArray, List.set_cons_zero, List.set_cons_succ]
                refine tk (v := ?_) 8 ?_ ?_
                rotate_left
                · intro w hSw
                  (try dsimp only at hSw)
                  first | (go_simp; done) | (go_simp; with_reducible rfl) | with_reducible rfl
                simp only [Act.put, List.setIfInBounds_toArray, List.set_cons_zero, List.set_cons_succ]
                refine tk (v := ?_) 9 ?_ ?_
                rotate_left
                · intro w hSw
                  (try dsimp only at hSw)
                  first | (go_simp; done) | (go_simp; with_reducible rfl) | with_reducible rfl
                simp only [Act.put, List.setIfInBounds_toArray, List.set_cons_zero, List.set_cons_succ]
                refine tk (v := ?_) 10 ?_ ?_
                rotate_left
                · intro w hSw
                  (try dsimp only at hSw)
                  first | (go_simp; done) | (go_simp; with_reducible rfl) | with_reducible rfl
                simp only [Act.put, List.setIfInBounds_toArray, List.set_cons_zero, List.set_cons_succ]
                refine tk (v := ?_) 11 ?_ ?_
                rotate_left
                · intro w hSw
                  (try dsimp only at hSw)
                  first | (go_simp; done) | (go_simp; with_reducible rfl) | with_reducible rfl
                simp only [Act.put, List.setIfInBounds_toArray, List.set_cons_zero, List.set_cons_succ]
                refine tk (v := ?_) 12 ?_ ?_
                rotate_left
                · intro w hSw
                  (try dsimp only at hSw)
                  first | (go_simp; done) | (go_simp; with_reducible rfl) | with_reducible rfl
                simp only [Act.put, List.setIfInBounds_toArray, List.set_cons_zero, List.set_cons_succ]
                refine tk (v := ?_) 13 ?_ ?_
                rotate_left
                · intro w hSw
                  (try dsimp only at hSw)
                  first | (go_simp; done) | (go_simp; with_reducible rfl) | with_reducible rfl
                simp only [Act.put, List.setIfInBounds_toArray, List.set_cons_zero, List.set_cons_succ]
                refine tk (v := ?_) 14 ?_ ?_
                rotate_left
                · intro w hSw
                  (try dsimp only at hSw)
                  first | (go_simp; done) | (go_simp; with_reducible rfl) | with_reducible rfl
                simp only [Act.put, List.setIfInBounds_toArray, List.set_cons_zero, List.set_cons_succ]
                refine tk (v := ?_) 15 ?_ ?_
                rotate_left
                · intro w hSw
                  (try dsimp only at hSw)
                  first | (go_simp; done) | (go_simp; with_reducible rfl) | with_reducible rfl
                simp only [Act.put, List.setIfInBounds_toArray, List.set_cons_zero, List.set_cons_succ]
                refine tk (v := ?_) 16 ?_ ?_
                rotate_left
                · intro w hSw
                  (try dsimp only at hSw)
                  first | (go_simp; done) | (go_simp; with_reducible rfl) | with_reducible rfl
                simp only [Act.put, List.setIfInBounds_toArray, List.set_cons_zero, List.set_cons_succ]
                refine tk (v := ?_) 17 ?_ ?_
                rotate_left
                · intro w hSw
                  (try dsimp only at hSw)
                  first | (go_simp; done) | (go_simp; with_reducible rfl) | with_reducible rfl
                simp only [Act.put, List.setIfInBounds_toArray, List.set_cons_zero, List.set_cons_succ]
                refine tk (v := ?_) 18 ?_ ?_
                rotate_left
                · intro w hSw
                  (try dsimp only at hSw)
                  first | (go_simp; done) | (go_simp; with_reducible rfl) | with_reducible rfl
                simp only [Act.put, List.setIfInBounds_toArray, List.set_cons_zero, List.set_cons_succ]
                refine wpAnyH_done (by kernel_rfl) ?_ _
                go_wp2
                refine ⟨⟨j3, by simp, by omega, fun j zz hj hz => ?_, HN2.out.drew⟩, by simp [intOf]⟩
                by_cases e : j = j3
                · subst e; rw [HY.out] at hz; cases hz; rw [HLK.out, HLY.out]; omega
                · exact HGT.out j zz (by omega) hz
              · go_wp2_with fail
                refine wp_region_held_drew (S := (fun w' => w'.cell? ⟨X, 1, none⟩ = some (.int .i64 z) ∧ w'.cell? ⟨R, 3, none⟩ = some (.slice (some ⟨ga, 0, none⟩) r.all.length ca) ∧ w'.cell? ⟨gd, j3, none⟩ = some (.int .i64 (y : Int)) ∧ w'.cell? ⟨ga, y * 2 + 1, none⟩ = some (.int .i64 zy))) (by kernel_rfl) ⟨x1, r3, hg0, p1⟩ (fun hHeld => ?_)
                refine tk (v := ?_) 0 ?_ ?_
                rotate_left
                · intro w hSw
                  (try dsimp only at hSw)
                  first | (go_simp; done) | (go_simp; with_reducible rfl) | with_reducible rfl
                simp only [Act.put, List.setIfInBounds_toArray, List.set_cons_zero, List.set_cons_succ]
                refine tk (v := ?_) 1 ?_ ?_
                rotate_left
                · intro w hSw
                  (try dsimp only at hSw)
                  first | (go_simp; done) | (go_simp; with_reducible rfl) | with_reducible rfl
                simp only [Act.put, List.setIfInBounds_toArray, List.set_cons_zero, List.set_cons_succ]
                refine tk (v := ?_) 2 ?_ ?_
                rotate_left
                · intro w hSw
                  (try dsimp only at hSw)
                  first | (go_simp; done) | (go_simp; with_reducible rfl) | with_reducible rfl
                simp only [Act.put, List.setIfInBounds_toArray, List.set_cons_zero, List.set_cons_succ]
                refine tk (v := ?_) 3 ?_ ?_
                rotate_left
                · intro w hSw
                  (try dsimp only at hSw)
                  first | (go_simp; done) | (go_simp; with_reducible rfl) | with_reducible rfl
                simp only [Act.put, List.setIfInBounds_toArray, List.set_cons_zero, List.set_cons_succ]
                refine tk (v := ?_) 4 ?_ ?_
                rotate_left
                · intro w hSw
                  (try dsimp only at hSw)
                  first | (go_simp; done) | (go_simp; with_reducible rfl) | with_reducible rfl
                simp only [Act.put, List.setIfInBounds_toArray, List.set_cons_zero, List.set_cons_succ]
                refine tk (v := ?_) 5 ?_ ?_
                rotate_left
                · intro w hSw
                  (try dsimp only at hSw)
                  first | (go_simp; done) | (go_simp; with_reducible rfl) | with_reducible rfl
                simp only [Act.put, List.setIfInBounds_toArray, List.set_cons_zero, List.set_cons_succ]
                refine tk (v := ?_) 6 ?_ ?_
                rotate_left
                · intro w hSw
                  (try dsimp only at hSw)
                  first | (go_simp; done) | (go_simp; with_reducible rfl) | with_reducible rfl
                simp only [Act.put, List.setIfInBounds_toArray, List.set_cons_zero, List.set_cons_succ]
                refine tk (v := ?_) 7 ?_ ?_
                rotate_left
                · intro w hSw
                  (try dsimp only at hSw)
                  first | (go_simp; done) | (go_simp; with_reducible rfl) | with_reducible rfl
                simp only [Act.put, List.setIfInBounds_toArray, List.set_cons_zero, List.set_cons_succ]
                refine tk (v := ?_) 8 ?_ ?_
                rotate_left
                · intro w hSw
                  (try dsimp only at hSw)
                  first | (go_simp; done) | (go_simp; with_reducible rfl) | with_reducible rfl
                simp only [Act.put, List.setIfInBounds_toArray, List.set_cons_zero, List.set_cons_succ]
                refine tk (v := ?_) 9 ?_ ?_
                rotate_left
                · intro w hSw
                  (try dsimp only at hSw)
                  first | (go_simp; done) | (go_simp; with_reducible rfl) | with_reducible rfl
                simp only [Act.put, List.setIfInBounds_toArray, List.set_cons_zero, List.set_cons_succ]
                refine tk (v := ?_) 10 ?_ ?_
                rotate_left
                · intro w hSw
                  (try dsimp only at hSw)
                  first | (go_simp; done) | (go_simp; with_reducible rfl) | with_reducible rfl
                simp only [Act.put, List.setIfInBounds_toArray, List.set_cons_zero, List.set_cons_succ]
                refine tk (v := ?_) 11 ?_ ?_
                rotate_left
                · intro w hSw
                  (try dsimp only at hSw)
                  first | (go_simp; done) | (go_simp; with_reducible rfl) | with_reducible rfl
                simp only [Act.put, List.setIfInBounds_toArray, List.set_cons_zero, List.set_cons_succ]
                refine tk (v := ?_) 12 ?_ ?_
                rotate_left
                · intro w hSw
                  (try dsimp only at hSw)
                  first | (go_simp; done) | (go_simp; with_reducible rfl) | with_reducible rfl
                simp only [Act.put, List.setIfInBounds_toArray, List.set_cons_zero, List.set_cons_succ]
                refine tk (v := ?_) 13 ?_ ?_
                rotate_left
                · intro w hSw
                  (try dsimp only at hSw)
                  first | (go_simp; done) | (go_simp; with_reducible rfl) | with_reducible rfl
                simp only [Act.put, List.setIfInBounds_toArray, List.set_cons_zero, List.set_cons_succ]
                refine tk (v := ?_) 14 ?_ ?_
                rotate_left
                · intro w hSw
                  (try dsimp only at hSw)
                  first | (go_simp; done) | (go_simp; with_reducible rfl) | with_reducible rfl
                simp only [Act.put, List.setIfInBounds_toArray, List.set_cons_zero, List.set_cons_succ]
                refine tk (v := ?_) 15 ?_ ?_
                rotate_left
                · intro w hSw
                  (try dsimp only at hSw)
                  first | (go_simp; done) | (go_simp; with_reducible rfl) | with_reducible rfl
                simp only [Act.put, List.setIfInBounds_toArray, List.set_cons_zero, List.set_cons_succ]
                refine tk (v := ?_) 16 ?_ ?_
                rotate_left
                · intro w hSw
                  (try dsimp only at hSw)
                  first | (go_simp; done) | (go_simp; with_reducible rfl) | with_reducible rfl
                simp only [Act.put, List.setIfInBounds_toArray, List.set_cons_zero, List.set_cons_succ]
                refine tk (v := ?_) 17 ?_ ?_
                rotate_left
                · intro w hSw
                  (try dsimp only at hSw)
                  first | (go_simp; done) | (go_simp; with_reducible rfl) | with_reducible rfl
                simp only [Act.put, List.setIfInBounds_toArray, List.set_cons_zero, List.set_cons_succ]
                refine tk (v := ?_) 18 ?_ ?_
                rotate_left
                · intro w hSw
                  (try dsimp only at hSw)
                  first | (go_simp; done) | (go_simp; with_reducible rfl) | with_reducible rfl
                simp only [Act.put, List.setIfInBounds_toArray, List.set_cons_zero, List.set_cons_succ]
                refine wpAnyH_done (by kernel_rfl) ?_ _
                have hins := hid (ins_okD (x := k) HPW.out hi9 HLT.out HGT.out (ins_h2D HY.out (by rw [HLK.out, HLY.out]; omega)))
                have N9 : Hid (New w wr.drew) := hid ((N5.out.trans HN2.out).drew)
                obtain ⟨B0, hB0⟩ : ∃ B0, B0 = wr.heap.size := ⟨_, rfl⟩
                have HB0 := hid hB0
                have HwB : Hid (w.heap.size ≤ B0) := hid (by rw [hB0]; exact N9.out.size)
                clear hB0
                obtain ⟨i, hiI⟩ : ∃ i : Nat, i = (j3 + 1) := ⟨_, rfl⟩
                rw [show ((j3 : Int) + 1) = (i : Int) by subst hiI; simp]
                rw [← hiI] at hins hi9
                obtain ⟨V1, hV1⟩ : ∃ V1, V1 = D.take i := ⟨_, rfl⟩
                obtain ⟨V2, hV2⟩ : ∃ V2, V2 = D.drop i := ⟨_, rfl⟩
                rw [← hV1, ← hV2] at hins
                have HL1 := hid (show V1.length = i by rw [hV1, List.length_take]; omega)
                have HL2 := hid (show V2.length = D.length - i by rw [hV2, List.length_drop])
                have OD := hid (show OwnI wr.drew w.heap.size (.slice (some ⟨gd, 0, none⟩) D.length vc) D from ownsP_new O6.out (Mod.refl _ _).drew)
                have HPA : Hid (∀ (j : Nat) (u : Value), (natRow V1)[j]? = some u → wr.drew.cell? ((⟨gd, 0, none⟩ : Addr).add j) = some u) := hid (OD.out.part 0 V1 (fun j y hy => by rw [hV1, List.getElem?_take] at hy; split at hy; rw [Nat.zero_add]; exact hy; cases hy))
                have HV2 : Hid (∀ (j : Nat) y, V2[j]? = some y → D[i + j]? = some y) := hid (fun j y hy => by rw [hV2, List.getElem?_drop] at hy; exact hy)
                have HgB : Hid (gd < B0) := hid (by rw [HB0.out]; exact HGG.out)
                clear hV1 hV2 hiI
                go_wp2_with (first | (at_builtin; go_loud (refine wpList_append_own_at _ rfl _ _ 96 rfl B0 3 i0 _ 1 8 Tryz.underlying96 hi hz0 hz1 hz2 rfl (by decide) (.slice none 0 0) 0 [] rfl ?owAYQ ⟨gd, 0, none⟩ i vc (natRow V1) rfl ?hlAYQ ?hnAYQ ?h1AYQ ?h63AYQ ?hbyAYQ ?hbaAYQ ?_)) | fail)
                case owAYQ => exact World.ownsRow_nil _ _ _ _
                case hlAYQ => first | (rw [natRow_len, HL1.out]; done) | rw [natRow_len, HL1.out, Nat.mul_one]
                try (case hnAYQ => exact fun j u hj => by have := HPA.out j u hj; first | exact this | (rw [addP, Nat.zero_add] at this; exact this))
                case h1AYQ => exact nat_one _
                case h63AYQ => unfold maxLen; omega
                case hbyAYQ => omega
                try (case hbaAYQ => have := HB0.out; simp; omega)
                intro o1 w1 r1 g1 hne1 hob1
                have NN1 : New wr.drew w1 := newGrownP (Mod.refl _ _) g1 (fun q hq => by cases hq)
                have N1 : Hid (New w w1) := hid (N9.out.trans NN1)
                have O1 := hid (OD.out.keep g1 (by simp [Value.ownBlock]))
                have R1 : Hid (w1.ownsRow B0 3 1 o1 i (natRow V1)) := hid (by simpa using r1)
                obtain ⟨sa, sc, rfl⟩ : ∃ sa sc, o1 = .slice sa i sc := by
                  rcases R1.out.2 with ⟨e, hz⟩ | ⟨g9, cap9, cur9, e, -⟩
                  · exact ⟨none, 0, by rw [e, hz]⟩
                  · exact ⟨_, _, e⟩
                have hgo1 := hid (show some gd ≠ (Value.slice sa i sc).ownBlock from fun e => by have := (World.ownsRow.lt R1.out gd e.symm).1; have := HgB.out; omega)
                have HB1 : Hid (B0 ≤ w1.heap.size) := hid (by have := NN1.size; have h2 := HB0.out; simp at this; omega)
                clear r1 g1 hne1 hob1 NN1
                go_wp2_with (first | (at_builtin; go_loud (refine wpList_append_own_at _ rfl _ _ 96 rfl B0 3 i0 _ 1 8 Tryz.underlying96 hi hz0 hz1 hz2 rfl (by decide) (.slice sa i sc) i (natRow V1) rfl ?owBYQ ⟨w1.heap.size, 0, none⟩ 1 1 [.int .i64 (k : Int)] rfl ?hlBYQ ?hnBYQ ?h1BYQ ?h63BYQ ?hbyBYQ ?hbaBYQ ?_)) | fail)
                case owBYQ => exact ownsP_new R1.out ((Mod.refl _ _).alloc _)
                case hlBYQ => rfl
                try (case hnBYQ => exact fun j u hj => by rw [addP]; match j, hj with | 0, hj => simp at hj; subst hj; exact (Blk.newAt (by simp)).cellv 0 rfl)
                try (case h1BYQ => first | rfl | (intro u hu; simp at hu; subst hu; rfl))
                case h63BYQ => unfold maxLen; omega
                case hbyBYQ => omega
                try (case hbaBYQ => have := HB1.out; simp; omega)
                intro o2 w2 r2 g2 hne2 hob2
                have N2 : Hid (New w w2) := hid (newGrownP (N1.out.alloc _) g2 (fun q hq => by have := (World.ownsRow.lt R1.out q hq).1; have := HwB.out; omega))
                have O2 : Hid (OwnI w2 w.heap.size (.slice (some ⟨gd, 0, none⟩) D.length vc) D) := hid (OwnI.keep (ownsP_new O1.out ((Mod.refl _ _).alloc _)) g2 hgo1.out)
                have R2 : Hid (w2.ownsRow B0 3 1 o2 (i + 1) (natRow V1 ++ [.int .i64 (k : Int)])) := hid r2
                obtain ⟨sb, sd, rfl⟩ : ∃ sb sd, o2 = .slice sb (i + 1) sd := by
                  rcases R2.out.2 with ⟨e, hz⟩ | ⟨g9, cap9, cur9, e, -⟩
                  · exact absurd hz (by simp)
                  · exact ⟨_, _, e⟩
                have HB2 : Hid (B0 ≤ w2.heap.size) := hid (by have := g2.size; have := HB1.out; simp at *; omega)
                clear r2 g2 hne2 hob2
                have HPC : Hid (∀ (j : Nat) (u : Value), (natRow V2)[j]? = some u → w2.cell? ((⟨gd, i, none⟩ : Addr).add j) = some u) := hid (O2.out.part i V2 HV2.out)
                by_cases hvi : vc = i
                · have hvi2 := hvi.symm
                  subst hvi2
                  clear hvi
                  have hV0 : V2 = [] := List.eq_nil_of_length_eq_zero (by have := HL2.out; omega)
                  have HV0 := hid hV0
                  clear hV0
                  have hUi : D.length - i = 0 := by omega
                  have HUI := hid hUi
                  clear hUi
                  go_wp2_with (first | (at_builtin; go_loud (refine wpList_append_own_at _ rfl _ _ 96 rfl B0 3 i0 _ 1 8 Tryz.underlying96 hi hz0 hz1 hz2 rfl (by decide) (.slice sb (i + 1) sd) (i + 1) (natRow V1 ++ [.int .i64 (k : Int)]) rfl ?owCYQ ⟨gd, 0, none⟩ 0 0 (natRow V2) rfl ?hlCYQ ?hnCYQ ?h1CYQ ?h63CYQ ?hbyCYQ ?hbaCYQ ?_)) | fail)
                  case owCYQ => exact R2.out
                  case hlCYQ => (rw [HV0.out]; rfl)
                  try (case hnCYQ => exact fun j u hj => by first | exact ((fun j u hj => by rw [HV0.out] at hj; simp [natRow] at hj)) j u hj | (have := ((fun j u hj => by rw [HV0.out] at hj; simp [natRow] at hj)) j u hj; rw [addP] at this; exact this) | (exfalso; rw [HV0.out] at hj; simp [natRow] at hj))
                  case h1CYQ => exact nat_one _
                  case h63CYQ => unfold maxLen; omega
                  case hbyCYQ => omega
                  case hbaCYQ => exact HB2.out
                  intro o3 w3 r3 g3 hne3 hob3
                  have N3 : Hid (New w w3) := hid (newGrownP N2.out g3 (fun q hq => by have := (World.ownsRow.lt R2.out q hq).1; have := HwB.out; omega))
                  have R3 : Hid (OwnI w3 B0 o3 (V1 ++ k :: V2)) := hid (by
                    unfold OwnI
                    rw [natRow_app, show natRow (k :: V2) = [.int .i64 (k : Int)] ++ natRow V2 from rfl, ← List.append_assoc, List.length_append, List.length_cons, HL1.out, HL2.out, show i + (D.length - i + 1) = i + 1 + (D.length - i) by omega]
                    first | exact r3 | (rw [List.append_assoc]; exact r3) | (rw [HUI.out]; exact r3) | (rw [HUI.out, List.append_assoc]; exact r3))
                  clear r3 g3 hne3 hob3
                  go_wp2
                  exact ⟨⟨k + 1, _, V1 ++ k :: V2, by simp, rfl, by omega, R3.out.base HwB.out, by rw [range_filter_next, if_pos HC.out]; exact hins.out.2.trans ((List.Perm.cons _ HPM.out).trans (List.perm_append_comm (l₁ := [k]))), hins.out.1, N3.out⟩, by simp [intOf]; omega⟩
                · have HUI : Hid (0 = 0) := hid rfl
                  have HV0 : Hid (0 = 0) := hid rfl
                  go_wp2_with (first | (at_builtin; go_loud (refine wpList_append_own_at _ rfl _ _ 96 rfl B0 3 i0 _ 1 8 Tryz.underlying96 hi hz0 hz1 hz2 rfl (by decide) (.slice sb (i + 1) sd) (i + 1) (natRow V1 ++ [.int .i64 (k : Int)]) rfl ?owDYQ ⟨gd, i, none⟩ (D.length - i) (vc - i) (natRow V2) rfl ?hlDYQ ?hnDYQ ?h1DYQ ?h63DYQ ?hbyDYQ ?hbaDYQ ?_)) | fail)
                  case owDYQ => exact R2.out
                  case hlDYQ => (first | (rw [natRow_len, HL2.out]; done) | rw [natRow_len, HL2.out, Nat.mul_one])
                  try (case hnDYQ => exact fun j u hj => by first | exact (HPC.out) j u hj | (have := (HPC.out) j u hj; rw [addP] at this; exact this) | (exfalso; rw [HV0.out] at hj; simp [natRow] at hj))
                  case h1DYQ => exact nat_one _
                  case h63DYQ => unfold maxLen; omega
                  case hbyDYQ => omega
                  case hbaDYQ => exact HB2.out
                  intro o3 w3 r3 g3 hne3 hob3
                  have N3 : Hid (New w w3) := hid (newGrownP N2.out g3 (fun q hq => by have := (World.ownsRow.lt R2.out q hq).1; have := HwB.out; omega))
                  have R3 : Hid (OwnI w3 B0 o3 (V1 ++ k :: V2)) := hid (by
                    unfold OwnI
                    rw [natRow_app, show natRow (k :: V2) = [.int .i64 (k : Int)] ++ natRow V2 from rfl, ← List.append_assoc, List.length_append, List.length_cons, HL1.out, HL2.out, show i + (D.length - i + 1) = i + 1 + (D.length - i) by omega]
                    first | exact r3 | (rw [List.append_assoc]; exact r3) | (rw [HUI.out]; exact r3) | (rw [HUI.out, List.append_assoc]; exact r3))
                  clear r3 g3 hne3 hob3
                  go_wp2
                  exact ⟨⟨k + 1, _, V1 ++ k :: V2, by simp, rfl, by omega, R3.out.base HwB.out, by rw [range_filter_next, if_pos HC.out]; exact hins.out.2.trans ((List.Perm.cons _ HPM.out).trans (List.perm_append_comm (l₁ := [k]))), hins.out.1, N3.out⟩, by simp [intOf]; omega⟩
      · have HC := hid hd
        have hd2 : 0 ≤ z ∧ t - z < r.every := by
          unfold dueB at hd
          rw [HLK.out] at hd
          simp at hd
          omega
        obtain ⟨hd3, hd4⟩ := hd2
        have e9 : decide (0 ≤ z) = true := decide_eq_true hd3
        have e8 : decide (z ≥ 0) = true := decide_eq_true hd3
        clear hd
        go_wp2_with fail
        refine wp_region_held_drew (S := (fun w' => w'.cell? ⟨wr.heap.size, 1, none⟩ = some (.int .i64 z) ∧ w'.cell? ⟨R, 2, none⟩ = some (.int .i64 r.every))) (by kernel_rfl) ⟨x1, r2⟩ (fun hHeld => ?_)
        refine tk (v := ?_) 0 ?_ ?_
        rotate_left
        · intro w hSw
          (try dsimp only at hSw)
          first | (go_simp; done) | (go_simp; with_reducible rfl) | with_reducible rfl
        simp only [Act.put, List.setIfInBounds_toArray, List.set_cons_zero, List.set_cons_succ]
        refine tk (v := ?_) 1 ?_ ?_
        rotate_left
        · intro w hSw
          (try dsimp only at hSw)
          first | (go_simp; done) | (go_simp; with_reducible rfl) | with_reducible rfl
        simp only [Act.put, List.setIfInBounds_toArray, List.set_cons_zero, List.set_cons_succ]
        refine tk (v := ?_) 2 ?_ ?_
        rotate_left
        · intro w hSw
          (try dsimp only at hSw)
          first | (go_simp; done) | (go_simp; with_reducible rfl) | with_reducible rfl
        simp only [Act.put, List.setIfInBounds_toArray, List.set_cons_zero, List.set_cons_succ]
        refine tk (v := ?_) 3 ?_ ?_
        rotate_left
        · intro w hSw
          (try dsimp only at hSw)
          first | (go_simp; done) | (go_simp; with_reducible rfl) | with_reducible rfl
        simp only [Act.put, List.setIfInBounds_toArray, List.set_cons_zero, List.set_cons_succ]
        refine tk (v := ?_) 4 ?_ ?_
        rotate_left
        · intro w hSw
          (try dsimp only at hSw)
          first | (go_simp; done) | (go_simp; with_reducible rfl) | with_reducible rfl
        simp only [Act.put, List.setIfInBounds_toArray, List.set_cons_zero, List.set_cons_succ]
        refine tk (v := ?_) 5 ?_ ?_
        rotate_left
        · intro w hSw
          (try dsimp only at hSw)
          first | (go_simp; done) | (go_simp; with_reducible rfl) | with_reducible rfl
        simp only [Act.put, List.setIfInBounds_toArray, List.set_cons_zero, List.set_cons_succ]
        refine tk (v := ?_) 6 ?_ ?_
        rotate_left
        · intro w hSw
          (try dsimp only at hSw)
          first | (go_simp; done) | (go_simp; with_reducible rfl) | with_reducible rfl
        simp only [Act.put, List.setIfInBounds_toArray, List.set_cons_zero, List.set_cons_succ]
        refine tk (v := ?_) 7 ?_ ?_
        rotate_left
        · intro w hSw
          (try dsimp only at hSw)
          first | (go_simp; done) | (go_simp; with_reducible rfl) | with_reducible rfl
        simp only [Act.put, List.setIfInBounds_toArray, List.set_cons_zero, List.set_cons_succ]
        refine tk (v := ?_) 8 ?_ ?_
        rotate_left
        · intro w hSw
          (try dsimp only at hSw)
          first | (go_simp; done) | (go_simp; with_reducible rfl) | with_reducible rfl
        simp only [Act.put, List.setIfInBounds_toArray, List.set_cons_zero, List.set_cons_succ]
        refine tk (v := ?_) 9 ?_ ?_
        rotate_left
        · intro w hSw
          (try dsimp only at hSw)
          first | (go_simp; done) | (go_simp; with_reducible rfl) | with_reducible rfl
        simp only [Act.put, List.setIfInBounds_toArray, List.set_cons_zero, List.set_cons_succ]
        refine tk (v := ?_) 10 ?_ ?_
        rotate_left
        · intro w hSw
          (try dsimp only at hSw)
          first | (go_simp; done) | (go_simp; with_reducible rfl) | with_reducible rfl
        simp only [Act.put, List.setIfInBounds_toArray, List.set_cons_zero, List.set_cons_succ]
        refine tk (v := ?_) 11 ?_ ?_
        rotate_left
        · intro w hSw
          (try dsimp only at hSw)
          first | (go_simp; done) | (go_simp; with_reducible rfl) | with_reducible rfl
        simp only [Act.put, List.setIfInBounds_toArray, List.set_cons_zero, List.set_cons_succ]
        refine tk (v := ?_) 12 ?_ ?_
        rotate_left
        · intro w hSw
          (try dsimp only at hSw)
          first | (go_simp; done) | (go_simp; with_reducible rfl) | with_reducible rfl
        simp only [Act.put, List.setIfInBounds_toArray, List.set_cons_zero, List.set_cons_succ]
        refine tk (v := ?_) 13 ?_ ?_
        rotate_left
        · intro w hSw
          (try dsimp only at hSw)
          first | (go_simp; done) | (go_simp; with_reducible rfl) | with_reducible rfl
        simp only [Act.put, List.setIfInBounds_toArray, List.set_cons_zero, List.set_cons_succ]
        refine wpAnyH_done (by kernel_rfl) ?_ _
        go_wp2
        exact ⟨⟨k + 1, _, D, by simp, rfl, by omega, O5a.out, by rw [range_filter_next, if_neg HC.out, List.append_nil]; exact HPM.out, HPW.out, N5a.out⟩, by simp [intOf]; omega⟩
    · obtain rfl : k = r.all.length := by omega
      clear how hpm hpw hn
      go_wp2
      go_ret
      exact ⟨_, D, rfl, HOW.out, HPM.out, HPW.out, HN.out⟩
end Go.Proofs.YtnflhjagmngimaaGreatDoor
