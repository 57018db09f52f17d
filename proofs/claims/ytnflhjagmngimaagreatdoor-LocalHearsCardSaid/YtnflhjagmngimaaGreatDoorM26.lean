/-
  Several texts in one, in their build order. The walk of the comparison by which a crier's names are sorted, and the sort (package local). Conditions: the crier lies as told, and so does the list.
-/
import Derived.Test.YtnflhjagmngimaaGreatDoorM12
import Derived.Test.YtnflhjagmngimaaGreatDoorM24
import Derived.Test.YtnflhjagmngimaaGreatDoorM13
import Derived.Test.YtnflhjagmngimaaGreatDoorM25
import Derived.Shelf.SlSortCmp.NoneTotal
namespace Go.Proofs.YtnflhjagmngimaaGreatDoor
set_option linter.unusedSimpArgs false
set_option linter.unusedVariables false
open Go.RowKit Go.Shelf Go.Sort

set_option maxRecDepth 100000 in
set_option maxHeartbeats 4000000 in
theorem wcmp_any (bx B M H : Nat) (c : CrV) (x y : ByteArray) (w : World) (hb : Blk w bx #[.pointer (some ⟨B, 0, none⟩)] 24) (h : CrAt w B M H c) (ho : CrOk c) :
    Calls Tryz.prog 67 (#[.string x, .string y] ++ #[.pointer (some ⟨bx, 0, none⟩)]) w fun e w' => e = .returned (.int .i64 (befN c.last x y)) ∧ ∃ q os, w' = grow (w.drewN q) os := by
  show Calls Tryz.prog 67 #[.string x, .string y, .pointer (some ⟨bx, 0, none⟩)] w _
  have b0 := hb.cellv 0 rfl; have bl := hb.lt
  have c4 : w.cell? ⟨B, 4, none⟩ = some (.map (some M)) := h.row.cellv 4 rfl
  have cl := h.row.lt
  have lx := (h.names.new (Mod.drew (Mod.refl _ _))).look x
  have ly := (h.names.new (Mod.drew (Mod.refl _ _))).look y
  have hlx := ho.last x; have hly := ho.last y
  unfold befN
  obtain ⟨X, hX⟩ : ∃ X, X = c.last x := ⟨_, rfl⟩
  obtain ⟨Y, hY⟩ : ∃ Y, Y = c.last y := ⟨_, rfl⟩
  rw [← hX] at lx hlx ⊢
  rw [← hY] at ly hly ⊢
  have hw : IntKind.i64.wrap (X - Y) = X - Y := by rw [IntKind.wrap_i64]; omega
  clear h ho hb hX hY
  by_cases g : X - Y = 0
  · have e1 : (X - Y == 0) = true := by rw [g]; rfl
    have e2 : (X - Y != 0) = false := by rw [g]; rfl
    rw [if_pos g]
    clear g
    go_enter Tryz.func67, Tryz.ntmps67
    go_wp2_with fail
    refine wp_region_held_drew (S := (fun w' => w'.cell? ⟨bx, 0, none⟩ = some (.pointer (some ⟨B, 0, none⟩)) ∧ w'.cell? ⟨B, 4, none⟩ = some (.map (some M)) ∧ (Instr.lookup 60 (.map (some M)) (.string x) false).run Tryz.prog w' = .ok (.int .i64 X) w' ∧ (Instr.lookup 60 (.map (some M)) (.string y) false).run Tryz.prog w' = .ok (.int .i64 Y) w')) (by kernel_rfl) ⟨b0, c4, lx, ly⟩ (fun hHeld => ?_)
    refine wpAnyH_take (i := 0) (v := ?_) (by simp only [List.getElem?_toArray, List.getElem?_cons_succ, List.getElem?_cons_zero]; rfl) (by kernel_rfl) (by kernel_rfl) (by kernel_rfl) (by intro _ _ _ h; exact h) (Or.inl ⟨by rfl, ?_⟩) (by assumption) ?_
    rotate_left
    · intro w hSw
      (try dsimp only at hSw)
      first | (go_simp; done) | (go_simp; with_reducible rfl) | with_reducible rfl
    simp only [Act.put, List.setIfInBounds_toArray, List.set_cons_zero, List.set_cons_succ]
    refine wpAnyH_take (i := 1) (v := ?_) (by simp only [List.getElem?_toArray, List.getElem?_cons_succ, List.getElem?_cons_zero]; rfl) (by kernel_rfl) (by kernel_rfl) (by kernel_rfl) (by intro _ _ _ h; exact h) (Or.inl ⟨by rfl, ?_⟩) (by assumption) ?_
    rotate_left
    · intro w hSw
      (try dsimp only at hSw)
      first | (go_simp; done) | (go_simp; with_reducible rfl) | with_reducible rfl
    simp only [Act.put, List.setIfInBounds_toArray, List.set_cons_zero, List.set_cons_succ]
    refine wpAnyH_take (i := 2) (v := ?_) (by simp only [List.getElem?_toArray, List.getElem?_cons_succ, List.getElem?_cons_zero]; rfl) (by kernel_rfl) (by kernel_rfl) (by kernel_rfl) (by intro _ _ _ h; exact h) (Or.inl ⟨by rfl, ?_⟩) (by assumption) ?_
    rotate_left
    · intro w hSw
      (try dsimp only at hSw)
      first | (go_simp; done) | (go_simp; with_reducible rfl) | with_reducible rfl
    simp only [Act.put, List.setIfInBounds_toArray, List.set_cons_zero, List.set_cons_succ]
    refine wpAnyH_take (i := 3) (v := ?_) (by simp only [List.getElem?_toArray, List.getElem?_cons_succ, List.getElem?_cons_zero]; rfl) (by kernel_rfl) (by kernel_rfl) (by kernel_rfl) (by intro _ _ _ h; exact h) (Or.inl ⟨by rfl, ?_⟩) (by assumption) ?_
    rotate_left
    · intro w hSw
      (try dsimp only at hSw)
      first | (go_simp; done) | (go_simp; with_reducible rfl) | with_reducible rfl
    simp only [Act.put, List.setIfInBounds_toArray, List.set_cons_zero, List.set_cons_succ]
    refine wpAnyH_take (i := 4) (v := ?_) (by simp only [List.getElem?_toArray, List.getElem?_cons_succ, List.getElem?_cons_zero]; rfl) (by kernel_rfl) (by kernel_rfl) (by kernel_rfl) (by intro _ _ _ h; exact h) (Or.inl ⟨by rfl, ?_⟩) (by assumption) ?_
    rotate_left
    · intro w hSw
      (try dsimp only at hSw)
      first | (go_simp; done) | (go_simp; with_reducible rfl) | with_reducible rfl
    simp only [Act.put, List.setIfInBounds_toArray, List.set_cons_zero, List.set_cons_succ]
    refine wpAnyH_take (i := 5) (v := ?_) (by simp only [List.getElem?_toArray, List.getElem?_cons_succ, List.getElem?_cons_zero]; rfl) (by kernel_rfl) (by kernel_rfl) (by kernel_rfl) (by intro _ _ _ h; exact h) (Or.inl ⟨by rfl, ?_⟩) (by assumption) ?_
    rotate_left
    · intro w hSw
      (try dsimp only at hSw)
      first | (go_simp; done) | (go_simp; with_reducible rfl) | with_reducible rfl
    simp only [Act.put, List.setIfInBounds_toArray, List.set_cons_zero, List.set_cons_succ]
    refine wpAnyH_take (i := 6) (v := ?_) (by simp only [List.getElem?_toArray, List.getElem?_cons_succ, List.getElem?_cons_zero]; rfl) (by kernel_rfl) (by kernel_rfl) (by kernel_rfl) (by intro _ _ _ h; exact h) (Or.inl ⟨by rfl, ?_⟩) (by assumption) ?_
    rotate_left
    · intro w hSw
      (try dsimp only at hSw)
      first | (go_simp; done) | (go_simp; with_reducible rfl) | with_reducible rfl
    simp only [Act.put, List.setIfInBounds_toArray, List.set_cons_zero, List.set_cons_succ]
    refine wpAnyH_take (i := 7) (v := ?_) (by simp only [List.getElem?_toArray, List.getElem?_cons_succ, List.getElem?_cons_zero]; rfl) (by kernel_rfl) (by kernel_rfl) (by kernel_rfl) (by intro _ _ _ h; exact h) (Or.inl ⟨by rfl, ?_⟩) (by assumption) ?_
    rotate_left
    · intro w hSw
      (try dsimp only at hSw)
      first | (go_simp; done) | (go_simp; with_reducible rfl) | with_reducible rfl
    simp only [Act.put, List.setIfInBounds_toArray, List.set_cons_zero, List.set_cons_succ]
    refine wpAnyH_take (i := 8) (v := ?_) (by simp only [List.getElem?_toArray, List.getElem?_cons_succ, List.getElem?_cons_zero]; rfl) (by kernel_rfl) (by kernel_rfl) (by kernel_rfl) (by intro _ _ _ h; exact h) (Or.inl ⟨by rfl, ?_⟩) (by assumption) ?_
    rotate_left
    · intro w hSw
      (try dsimp only at hSw)
      first | (go_simp; done) | (go_simp; with_reducible rfl) | with_reducible rfl
    simp only [Act.put, List.setIfInBounds_toArray, List.set_cons_zero, List.set_cons_succ]
    refine wpAnyH_take (i := 9) (v := ?_) (by simp only [List.getElem?_toArray, List.getElem?_cons_succ, List.getElem?_cons_zero]; rfl) (by kernel_rfl) (by kernel_rfl) (by kernel_rfl) (by intro _ _ _ h; exact h) (Or.inl ⟨by rfl, ?_⟩) (by assumption) ?_
    rotate_left
    · intro w hSw
      (try dsimp only at hSw)
      first | (go_simp; done) | (go_simp; with_reducible rfl) | with_reducible rfl
    simp only [Act.put, List.setIfInBounds_toArray, List.set_cons_zero, List.set_cons_succ]
    refine wpAnyH_take (i := 10) (v := ?_) (by simp only [List.getElem?_toArray, List.getElem?_cons_succ, List.getElem?_cons_zero]; rfl) (by kernel_rfl) (by kernel_rfl) (by kernel_rfl) (by intro _ _ _ h; exact h) (Or.inl ⟨by rfl, ?_⟩) (by assumption) ?_
    rotate_left
    · intro w hSw
      (try dsimp only at hSw)
      first | (go_simp; done) | (go_simp; with_reducible rfl) | with_reducible rfl
    simp only [Act.put, List.setIfInBounds_toArray, List.set_cons_zero, List.set_cons_succ]
    refine wpAnyH_take (i := 11) (v := ?_) (by simp only [List.getElem?_toArray, List.getElem?_cons_succ, List.getElem?_cons_zero]; rfl) (by kernel_rfl) (by kernel_rfl) (by kernel_rfl) (by intro _ _ _ h; exact h) (Or.inl ⟨by rfl, ?_⟩) (by assumption) ?_
    rotate_left
    · intro w hSw
      (try dsimp only at hSw)
      first | (go_simp; done) | (go_simp; with_reducible rfl) | with_reducible rfl
    simp only [Act.put, List.setIfInBounds_toArray, List.set_cons_zero, List.set_cons_succ]
    refine wpAnyH_take (i := 12) (v := ?_) (by simp only [List.getElem?_toArray, List.getElem?_cons_succ, List.getElem?_cons_zero]; rfl) (by kernel_rfl) (by kernel_rfl) (by kernel_rfl) (by intro _ _ _ h; exact h) (Or.inl ⟨by rfl, ?_⟩) (by assumption) ?_
    rotate_left
    · intro w hSw
      (try dsimp only at hSw)
      first | (go_simp; done) | (go_simp; with_reducible rfl) | with_reducible rfl
    simp only [Act.put, List.setIfInBounds_toArray, List.set_cons_zero, List.set_cons_succ]
    refine wpAnyH_take (i := 13) (v := ?_) (by simp only [List.getElem?_toArray, List.getElem?_cons_succ, List.getElem?_cons_zero]; rfl) (by kernel_rfl) (by kernel_rfl) (by kernel_rfl) (by intro _ _ _ h; exact h) (Or.inl ⟨by rfl, ?_⟩) (by assumption) ?_
    rotate_left
    · intro w hSw
      (try dsimp only at hSw)
      first | (go_simp; done) | (go_simp; with_reducible rfl) | with_reducible rfl
    simp only [Act.put, List.setIfInBounds_toArray, List.set_cons_zero, List.set_cons_succ]
    refine wpAnyH_done (by kernel_rfl) ?_ _
    go_wp2_with (go_at_call 68; refine (Tryz.strings_Compare _ _ _).mono ?_; rintro e w' ⟨rfl, rfl⟩)
    go_ret
    exact ⟨rfl, 1, #[], by rw [grow_empty]; rfl⟩
  · have e1 : (X - Y == 0) = false := by rw [beq_eq_false_iff_ne]; exact g
    have e2 : (X - Y != 0) = true := by rw [bne, e1]; rfl
    rw [if_neg g]
    clear g
    go_enter Tryz.func67, Tryz.ntmps67
    go_wp2_with fail
    refine wp_region_held_drew (S := (fun w' => w'.cell? ⟨bx, 0, none⟩ = some (.pointer (some ⟨B, 0, none⟩)) ∧ w'.cell? ⟨B, 4, none⟩ = some (.map (some M)) ∧ (Instr.lookup 60 (.map (some M)) (.string x) false).run Tryz.prog w' = .ok (.int .i64 X) w' ∧ (Instr.lookup 60 (.map (some M)) (.string y) false).run Tryz.prog w' = .ok (.int .i64 Y) w')) (by kernel_rfl) ⟨b0, c4, lx, ly⟩ (fun hHeld => ?_)
    refine wpAnyH_take (i := 0) (v := ?_) (by simp only [List.getElem?_toArray, List.getElem?_cons_succ, List.getElem?_cons_zero]; rfl) (by kernel_rfl) (by kernel_rfl) (by kernel_rfl) (by intro _ _ _ h; exact h) (Or.inl ⟨by rfl, ?_⟩) (by assumption) ?_
    rotate_left
    · intro w hSw
      (try dsimp only at hSw)
      first | (go_simp; done) | (go_simp; with_reducible rfl) | with_reducible rfl
    simp only [Act.put, List.setIfInBounds_toArray, List.set_cons_zero, List.set_cons_succ]
    refine wpAnyH_take (i := 1) (v := ?_) (by simp only [List.getElem?_toArray, List.getElem?_cons_succ, List.getElem?_cons_zero]; rfl) (by kernel_rfl) (by kernel_rfl) (by kernel_rfl) (by intro _ _ _ h; exact h) (Or.inl ⟨by rfl, ?_⟩) (by assumption) ?_
    rotate_left
    · intro w hSw
      (try dsimp only at hSw)
      first | (go_simp; done) | (go_simp; with_reducible rfl) | with_reducible rfl
    simp only [Act.put, List.setIfInBounds_toArray, List.set_cons_zero, List.set_cons_succ]
    refine wpAnyH_take (i := 2) (v := ?_) (by simp only [List.getElem?_toArray, List.getElem?_cons_succ, List.getElem?_cons_zero]; rfl) (by kernel_rfl) (by kernel_rfl) (by kernel_rfl) (by intro _ _ _ h; exact h) (Or.inl ⟨by rfl, ?_⟩) (by assumption) ?_
    rotate_left
    · intro w hSw
      (try dsimp only at hSw)
      first | (go_simp; done) | (go_simp; with_reducible rfl) | with_reducible rfl
    simp only [Act.put, List.setIfInBounds_toArray, List.set_cons_zero, List.set_cons_succ]
    refine wpAnyH_take (i := 3) (v := ?_) (by simp only [List.getElem?_toArray, List.getElem?_cons_succ, List.getElem?_cons_zero]; rfl) (by kernel_rfl) (by kernel_rfl) (by kernel_rfl) (by intro _ _ _ h; exact h) (Or.inl ⟨by rfl, ?_⟩) (by assumption) ?_
    rotate_left
    · intro w hSw
      (try dsimp only at hSw)
      first | (go_simp; done) | (go_simp; with_reducible rfl) | with_reducible rfl
    simp only [Act.put, List.setIfInBounds_toArray, List.set_cons_zero, List.set_cons_succ]
    refine wpAnyH_take (i := 4) (v := ?_) (by simp only [List.getElem?_toArray, List.getElem?_cons_succ, List.getElem?_cons_zero]; rfl) (by kernel_rfl) (by kernel_rfl) (by kernel_rfl) (by intro _ _ _ h; exact h) (Or.inl ⟨by rfl, ?_⟩) (by assumption) ?_
    rotate_left
    · intro w hSw
      (try dsimp only at hSw)
      first | (go_simp; done) | (go_simp; with_reducible rfl) | with_reducible rfl
    simp only [Act.put, List.setIfInBounds_toArray, List.set_cons_zero, List.set_cons_succ]
    refine wpAnyH_take (i := 5) (v := ?_) (by simp only [List.getElem?_toArray, List.getElem?_cons_succ, List.getElem?_cons_zero]; rfl) (by kernel_rfl) (by kernel_rfl) (by kernel_rfl) (by intro _ _ _ h; exact h) (Or.inl ⟨by rfl, ?_⟩) (by assumption) ?_
    rotate_left
    · intro w hSw
      (try dsimp only at hSw)
      first | (go_simp; done) | (go_simp; with_reducible rfl) | with_reducible rfl
    simp only [Act.put, List.setIfInBounds_toArray, List.set_cons_zero, List.set_cons_succ]
    refine wpAnyH_take (i := 6) (v := ?_) (by simp only [List.getElem?_toArray, List.getElem?_cons_succ, List.getElem?_cons_zero]; rfl) (by kernel_rfl) (by kernel_rfl) (by kernel_rfl) (by intro _ _ _ h; exact h) (Or.inl ⟨by rfl, ?_⟩) (by assumption) ?_
    rotate_left
    · intro w hSw
      (try dsimp only at hSw)
      first | (go_simp; done) | (go_simp; with_reducible rfl) | with_reducible rfl
    simp only [Act.put, List.setIfInBounds_toArray, List.set_cons_zero, List.set_cons_succ]
    refine wpAnyH_take (i := 7) (v := ?_) (by simp only [List.getElem?_toArray, List.getElem?_cons_succ, List.getElem?_cons_zero]; rfl) (by kernel_rfl) (by kernel_rfl) (by kernel_rfl) (by intro _ _ _ h; exact h) (Or.inl ⟨by rfl, ?_⟩) (by assumption) ?_
    rotate_left
    · intro w hSw
      (try dsimp only at hSw)
      first | (go_simp; done) | (go_simp; with_reducible rfl) | with_reducible rfl
    simp only [Act.put, List.setIfInBounds_toArray, List.set_cons_zero, List.set_cons_succ]
    refine wpAnyH_take (i := 8) (v := ?_) (by simp only [List.getElem?_toArray, List.getElem?_cons_succ, List.getElem?_cons_zero]; rfl) (by kernel_rfl) (by kernel_rfl) (by kernel_rfl) (by intro _ _ _ h; exact h) (Or.inl ⟨by rfl, ?_⟩) (by assumption) ?_
    rotate_left
    · intro w hSw
      (try dsimp only at hSw)
      first | (go_simp; done) | (go_simp; with_reducible rfl) | with_reducible rfl
    simp only [Act.put, List.setIfInBounds_toArray, List.set_cons_zero, List.set_cons_succ]
    refine wpAnyH_take (i := 9) (v := ?_) (by simp only [List.getElem?_toArray, List.getElem?_cons_succ, List.getElem?_cons_zero]; rfl) (by kernel_rfl) (by kernel_rfl) (by kernel_rfl) (by intro _ _ _ h; exact h) (Or.inl ⟨by rfl, ?_⟩) (by assumption) ?_
    rotate_left
    · intro w hSw
      (try dsimp only at hSw)
      first | (go_simp; done) | (go_simp; with_reducible rfl) | with_reducible rfl
    simp only [Act.put, List.setIfInBounds_toArray, List.set_cons_zero, List.set_cons_succ]
    refine wpAnyH_take (i := 10) (v := ?_) (by simp only [List.getElem?_toArray, List.getElem?_cons_succ, List.getElem?_cons_zero]; rfl) (by kernel_rfl) (by kernel_rfl) (by kernel_rfl) (by intro _ _ _ h; exact h) (Or.inl ⟨by rfl, ?_⟩) (by assumption) ?_
    rotate_left
    · intro w hSw
      (try dsimp only at hSw)
      first | (go_simp; done) | (go_simp; with_reducible rfl) | with_reducible rfl
    simp only [Act.put, List.setIfInBounds_toArray, List.set_cons_zero, List.set_cons_succ]
    refine wpAnyH_take (i := 11) (v := ?_) (by simp only [List.getElem?_toArray, List.getElem?_cons_succ, List.getElem?_cons_zero]; rfl) (by kernel_rfl) (by kernel_rfl) (by kernel_rfl) (by intro _ _ _ h; exact h) (Or.inl ⟨by rfl, ?_⟩) (by assumption) ?_
    rotate_left
    · intro w hSw
      (try dsimp only at hSw)
      first | (go_simp; done) | (go_simp; with_reducible rfl) | with_reducible rfl
    simp only [Act.put, List.setIfInBounds_toArray, List.set_cons_zero, List.set_cons_succ]
    refine wpAnyH_take (i := 12) (v := ?_) (by simp only [List.getElem?_toArray, List.getElem?_cons_succ, List.getElem?_cons_zero]; rfl) (by kernel_rfl) (by kernel_rfl) (by kernel_rfl) (by intro _ _ _ h; exact h) (Or.inl ⟨by rfl, ?_⟩) (by assumption) ?_
    rotate_left
    · intro w hSw
      (try dsimp only at hSw)
      first | (go_simp; done) | (go_simp; with_reducible rfl) | with_reducible rfl
    simp only [Act.put, List.setIfInBounds_toArray, List.set_cons_zero, List.set_cons_succ]
    refine wpAnyH_take (i := 13) (v := ?_) (by simp only [List.getElem?_toArray, List.getElem?_cons_succ, List.getElem?_cons_zero]; rfl) (by kernel_rfl) (by kernel_rfl) (by kernel_rfl) (by intro _ _ _ h; exact h) (Or.inl ⟨by rfl, ?_⟩) (by assumption) ?_
    rotate_left
    · intro w hSw
      (try dsimp only at hSw)
      first | (go_simp; done) | (go_simp; with_reducible rfl) | with_reducible rfl
    simp only [Act.put, List.setIfInBounds_toArray, List.set_cons_zero, List.set_cons_succ]
    refine wpAnyH_done (by kernel_rfl) ?_ _
    go_wp2_with fail
    go_ret
    exact ⟨by simp [hw], 1, #[], by rw [grow_empty]; rfl⟩
theorem mod_sortWorld (w : World) (g n : Nat) (d : Array ByteArray) (os : Array Obj) (hg : g < w.heap.size) : Mod (· = g) w (sortWorld Value.string w g 0 n d os) := by
  refine ⟨rfl, rfl, rfl, ?_, fun k hk hne => ?_⟩
  · unfold sortWorld; rw [size_grow, size_putRow]; show w.heap.size ≤ w.heap.size + _; omega
  · have hgk : g ≠ k := fun e => hne e.symm
    unfold sortWorld
    rw [heap_grow_old _ _ (by rw [size_putRow]; exact hk)]
    simp [putRow, mapBlock, Sort.ahead, Array.getElem?_modify, hgk]
/-- What the sort leaves: the same names, those that wait longest ahead. -/
theorem wsort_any (bx B M H base : Nat) (c : CrV) (v : Value) (U : List ByteArray) (w : World) (h : OwnT w base v U) (hb : Blk w bx #[.pointer (some ⟨B, 0, none⟩)] 24) (hc : CrAt w B M H c) (ho : CrOk c)
    (h1 : bx < base) (h2 : B < base) (h3 : M < base) (h4 : H < base) (hl : U.length ≤ 1000000) :
    Calls Tryz.prog 66 #[v, .func (.func 67) #[] #[.pointer (some ⟨bx, 0, none⟩)]] w fun e w' => e = .returned (.tuple #[]) ∧
      ∃ (U' : List ByteArray) (a : Option Addr) (cap : Nat), U'.Perm U ∧ U'.Pairwise (fun x y => c.last x ≤ c.last y) ∧ v = .slice a U'.length cap ∧ StrsAt w' a cap U' ∧ (∀ x, a = some x → base ≤ x.block ∧ x.block < w'.heap.size) ∧ Mod (fun k => base ≤ k) w w' := by
  obtain ⟨a0, c0, hv0, hst, hbk⟩ := h.strs
  rcases h.row.2 with ⟨hv, hz⟩ | ⟨g, cap, cur, hv, hbg, hg, hnc, hcm, hcs, htake⟩
  · have hU : U = [] := List.eq_nil_of_length_eq_zero hz
    subst hU hv
    refine (show Calls Tryz.prog 66 #[.slice none 0 0, .func (.func 67) #[] #[.pointer (some ⟨bx, 0, none⟩)]] w _ from AnyF.slices_SortFunc_none { Tryz.laysSF with } none 0 (.func (.func 67) #[] #[.pointer (some ⟨bx, 0, none⟩)]) w).mono ?_
    rintro e w' ⟨rfl, rfl⟩
    exact ⟨rfl, [], none, 0, List.Perm.refl _, List.Pairwise.nil, rfl, ⟨by simp, by simp [maxLen], by simp, .inl rfl⟩, by simp, Mod.refl _ _⟩
  · subst hv
    have hgl : g < w.heap.size := (Array.getElem?_eq_some_iff.1 hg).1
    have ha0 : a0 = some ⟨g, 0, none⟩ := by injection hv0 with q1; exact q1.symm
    subst ha0
    have hH : Holds Value.string w g 0 U.toArray := by
      intro j hj
      have hj' : j < U.length := by simpa using hj
      refine ⟨?_, ?_⟩
      · have h1 := h.row.cells (g := g) rfl j (.string U[j]) (by simp [List.getElem?_eq_getElem hj'])
        have hadd : ∀ k, (⟨g, 0, none⟩ : Addr).add k = ⟨g, 0 + k, none⟩ := fun k => by unfold Addr.add; split <;> simp_all
        rw [hadd] at h1
        rw [h1, getElem!_pos _ j hj]
        simp
      · simp only [World.frozen?, hg]
        rfl
    have hsz : U.toArray.size = U.length := by simp
    have hcon := Any.slices_SortFunc Tryz.laysSF Value.string (fun _ => rfl) (befN c.last) (befN_swo c.last) 67 #[.pointer (some ⟨bx, 0, none⟩)] g 0 cap U.toArray w (enters_of Tryz.func67 (by kernel_rfl) rfl)
      (fun m os dk _ x y => by
        have hm := mod_sortWorld w g m dk os hgl
        exact wcmp_any bx B M H c x y _ (Mod.blk hm hb (by omega)) (hc.mod hm (by omega) (by omega) (by omega)) ho) hH hgl (by rw [hsz]; omega)
    rw [hsz] at hcon
    refine (show Calls Tryz.prog 66 #[.slice (some ⟨g, 0, none⟩) U.length cap, .func (.func 67) #[] #[.pointer (some ⟨bx, 0, none⟩)]] w _ from hcon).mono ?_
    rintro e w' ⟨rfl, d', n, os, hp, hs, rfl⟩
    obtain ⟨p1, -, p3⟩ := hp
    have p1' : d'.size = U.length := by rw [p1, hsz]
    have hperm : d'.toList.Perm U := by
      have e1 : d'.extract 0 U.length = d' := by rw [← p1']; simp
      have e2 : U.toArray.extract 0 U.length = U.toArray := by
        apply Array.toList_inj.1
        simp
      rw [e1, e2] at p3
      exact p3
    have hlen : d'.toList.length = U.length := by simp [p1']
    have hH' := holds_sortWorld Value.string w g 0 n U.toArray d' os hgl hH p1
    refine ⟨rfl, d'.toList, some ⟨g, 0, none⟩, cap, hperm, ?_, by rw [hlen], ⟨by rw [hlen]; exact hnc, hcm, fun s hs => h.small s (hperm.mem_iff.1 hs), .inr ⟨g, 0, rfl, lt_sortWorld Value.string w g 0 n d' os hgl, fun i s hi => ?_⟩⟩, fun x hx => by injection hx with hx; subst hx; exact ⟨hbg, lt_sortWorld Value.string w g 0 n d' os hgl⟩, ?_⟩
    · rw [List.pairwise_iff_getElem]
      intro i j hi hj hij
      have h1 := hs i j (Nat.zero_le _) hij (by rw [hlen] at hj; exact hj)
      rw [hlen] at hi hj
      rw [getElem!_pos d' j (by omega), getElem!_pos d' i (by omega)] at h1
      exact befN_last h1
    · have hid : i < d'.size := by
        have := (List.getElem?_eq_some_iff.1 hi).1
        simpa using this
      obtain ⟨q, -⟩ := hH' i hid
      rw [getElem!_pos d' i hid] at q
      rw [Array.getElem?_toList, Array.getElem?_eq_getElem hid] at hi
      injection hi with hi
      rw [q, hi]
    · have hm := mod_sortWorld w g n d' os hgl
      exact ⟨hm.os, hm.tape, hm.output, hm.size, fun k hk hne => hm.block k hk (fun q => hne (by omega))⟩
end Go.Proofs.YtnflhjagmngimaaGreatDoor
