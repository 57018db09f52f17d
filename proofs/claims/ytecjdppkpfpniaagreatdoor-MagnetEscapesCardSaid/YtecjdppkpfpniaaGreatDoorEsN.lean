/-
  The walk of awake. Condition: the library's variable is as laid.
-/
import Derived.Test.YtecjdppkpfpniaaGreatDoorEsL
import Derived.OrdersHeld
namespace Go.Proofs.YtecjdppkpfpniaaGreatDoor
set_option linter.unusedSimpArgs false
set_option linter.unusedVariables false
open Go.RowKit Go.Shelf

theorem made_oneM (v : Value) (n : Nat) (hv : v.cells = #[v]) : madeCells v.cells n = Array.replicate n v := by
  apply Array.ext
  · simp [madeCells]
  · intro i h1 h2
    simp [madeCells, hv, Nat.mod_one]
theorem make_bytesM (n : Nat) (h : n ≤ 65536) (w : World) : (Instr.makeSlice 59 (.int .i64 n) (.int .i64 n)).run Tryz.prog w = .ok (.slice (some ⟨w.heap.size, 0, none⟩) n n) (w.alloc (.cells (Array.replicate n (.int .u8 0)) 5)) := by
  obtain ⟨i0, hi, hz0, hz1, hz2⟩ := info_parts info_byte
  have hr := run_makeSlice (P := Tryz.prog) w 59 5 i0 _ Tryz.underlying59 hi hz0 .i64 .i64 n n (by omega) (by omega) (by rw [hz1]; omega) (by rw [hz2]; omega) (by omega)
  rw [hr, hz1, Nat.mul_one, made_oneM _ _ rfl]
  simp
theorem zeros_text (W : World) (g : Nat) (h : W.heap.size = g) : (convert 59 9 (.slice (some ⟨g, 0, none⟩) 20 20)).run Tryz.prog (W.alloc (.cells (Array.replicate 20 (.int .u8 0)) 5)).drew = .ok (.string kZ) (W.alloc (.cells (Array.replicate 20 (.int .u8 0)) 5)).drew := by
  subst h
  have b : ByAt (W.alloc (.cells (Array.replicate 20 (.int .u8 0)) 5)) W.heap.size kZ.data.toList := by
    refine ByAt.of_blk (Blk.new W _ _) (by decide +kernel) (fun i hi => ?_)
    have hi' : i < 20 := hi
    have e : ∀ i (hi : i < kZ.data.toList.length), kZ.data.toList[i] = 0 := by decide +kernel
    rw [e i hi]
    simp [Array.getElem?_replicate, hi']
  exact (b.new (Mod.refl _ _).drew).text 20 20 (by decide +kernel)
set_option maxRecDepth 100000 in
set_option maxHeartbeats 4000000 in
theorem awake09_any (w : World) (hv : VarM w) : Calls Tryz.prog 9 #[] w fun e w' => e = .returned (.bool true) ∧ New w w' := by
  have HPA := hid (parse_awake w hv)
  unfold magA at HPA
  have hmk : ∀ w, (Instr.makeSlice 59 (.int .i64 20) (.int .i64 20)).run Tryz.prog w = .ok (.slice (some ⟨w.heap.size, 0, none⟩) 20 20) (w.alloc (.cells (Array.replicate 20 (.int .u8 0)) 5)) := make_bytesM 20 (by omega)
  have hzt := zeros_text
  have hNe : (kN.toList == [97, 32, 98]) = true := by decide +kernel
  go_enter Tryz.func9, Tryz.ntmps9
  go_wp2_with fail
  refine HPA.out.mono ?_
  rintro e w1 ⟨rfl, n1⟩
  have N1 := hid n1
  clear n1
  go_wp2
  have B0 := (Blk.new w1 #[.string kZ, .string ⟨#[]⟩, .string kN, .slice none 0 0, .slice none 0 0, .slice none 0 0, .slice none 0 0] 27).drew
  have HAL : Hid (∀ W : World, W.cell? ⟨w1.heap.size, 0, none⟩ = some (.string kZ) ∧ W.cell? ⟨w1.heap.size, 2, none⟩ = some (.string kN) → (W.alloc (.cells (Array.replicate 20 (.int .u8 0)) 5)).cell? ⟨w1.heap.size, 0, none⟩ = some (.string kZ) ∧ (W.alloc (.cells (Array.replicate 20 (.int .u8 0)) 5)).cell? ⟨w1.heap.size, 2, none⟩ = some (.string kN)) := hid (fun W ⟨h1, h2⟩ => ⟨New.cellv ((Mod.refl _ W).alloc _) h1, New.cellv ((Mod.refl _ W).alloc _) h2⟩)
  refine wp_region_held_drew (S := (fun w' => w'.cell? ⟨w1.heap.size, 0, none⟩ = some (.string kZ) ∧ w'.cell? ⟨w1.heap.size, 2, none⟩ = some (.string kN))) (by kernel_rfl) ⟨B0.cellv 0 rfl, B0.cellv 2 rfl⟩ (fun hHeld => ?_)
  clear B0
  refine tk (v := ?_) 0 ?_ ?_
  rotate_left
  · intro w hSw
    (try dsimp only at hSw)
    first | (go_simp; done) | (go_simp; with_reducible rfl) | with_reducible rfl
  simp only [Act.put, List.setIfInBounds_toArray, List.set_cons_zero, List.set_cons_succ]
  refine tk (v := ?_) 1 ?_ ?_
  rotate_left
  · intro w hSw
    (try dsimp only at hSw)
    first | (go_simp; done) | (go_simp; with_reducible rfl) | with_reducible rfl
  simp only [Act.put, List.setIfInBounds_toArray, List.set_cons_zero, List.set_cons_succ]
  refine tk (v := ?_) 2 ?_ ?_
  rotate_left
  · intro w hSw
    (try dsimp only at hSw)
    first | (go_simp; done) | (go_simp; with_reducible rfl) | with_reducible rfl
  simp only [Act.put, List.setIfInBounds_toArray, List.set_cons_zero, List.set_cons_succ]
  refine tk (v := ?_) 3 ?_ ?_
  rotate_left
  · intro w hSw
    (try dsimp only at hSw)
    first | (go_simp; done) | (go_simp; with_reducible rfl) | with_reducible rfl
  simp only [Act.put, List.setIfInBounds_toArray, List.set_cons_zero, List.set_cons_succ]
  refine tk (v := ?_) 4 ?_ ?_
  rotate_left
  · intro w hSw
    (try dsimp only at hSw)
    first | (go_simp; done) | (go_simp; with_reducible rfl) | with_reducible rfl
  simp only [Act.put, List.setIfInBounds_toArray, List.set_cons_zero, List.set_cons_succ]
  refine wpAnyH_ready (rs := [5]) (by kernel_rfl) (by simp) ?_
  refine AllReadyH.cons (by simp only [List.getElem?_toArray, List.getElem?_cons_succ, List.getElem?_cons_zero]; rfl) (fun K hK => ?_) AllReadyH.nil
  go_simp
  refine hK.out _ _ (by exact HAL.out _ hHeld) (fun hHeld5 => ?_)
  clear hK K
  try simp only [Act.put, List.setIfInBounds_toArray, List.set_cons_zero, List.set_cons_succ]
  clear hHeld
  have hHeld := hHeld5
  refine wpAnyH_ready (rs := [6]) (by kernel_rfl) (by simp) ?_
  refine AllReadyH.cons (by simp only [List.getElem?_toArray, List.getElem?_cons_succ, List.getElem?_cons_zero]; rfl) (fun K hK => ?_) AllReadyH.nil
  go_simp
  refine hK.out _ _ (by exact hHeld) (fun hHeld6 => ?_)
  clear hK K
  try simp only [Act.put, List.setIfInBounds_toArray, List.set_cons_zero, List.set_cons_succ]
  refine tk (v := ?_) 7 ?_ ?_
  rotate_left
  · intro w hSw
    (try dsimp only at hSw)
    first | (go_simp; done) | (go_simp; with_reducible rfl) | with_reducible rfl
  simp only [Act.put, List.setIfInBounds_toArray, List.set_cons_zero, List.set_cons_succ]
  refine tk (v := ?_) 8 ?_ ?_
  rotate_left
  · intro w hSw
    (try dsimp only at hSw)
    first | (go_simp; done) | (go_simp; with_reducible rfl) | with_reducible rfl
  simp only [Act.put, List.setIfInBounds_toArray, List.set_cons_zero, List.set_cons_succ]
  refine tk (v := ?_) 9 ?_ ?_
  rotate_left
  · intro w hSw
    (try dsimp only at hSw)
    first | (go_simp; done) | (go_simp; with_reducible rfl) | with_reducible rfl
  simp only [Act.put, List.setIfInBounds_toArray, List.set_cons_zero, List.set_cons_succ]
  refine tk (v := ?_) 10 ?_ ?_
  rotate_left
  · intro w hSw
    (try dsimp only at hSw)
    first | (go_simp; done) | (go_simp; with_reducible rfl) | with_reducible rfl
  simp only [Act.put, List.setIfInBounds_toArray, List.set_cons_zero, List.set_cons_succ]
  refine tk (v := ?_) 11 ?_ ?_
  rotate_left
  · intro w hSw
    (try dsimp only at hSw)
    first | (go_simp; done) | (go_simp; with_reducible rfl) | with_reducible rfl
  simp only [Act.put, List.setIfInBounds_toArray, List.set_cons_zero, List.set_cons_succ]
  refine tk (v := ?_) 12 ?_ ?_
  rotate_left
  · intro w hSw
    (try dsimp only at hSw)
    first | (go_simp; done) | (go_simp; with_reducible rfl) | with_reducible rfl
  simp only [Act.put, List.setIfInBounds_toArray, List.set_cons_zero, List.set_cons_succ]
  refine tk (v := ?_) 13 ?_ ?_
  rotate_left
  · intro w hSw
    (try dsimp only at hSw)
    first | (go_simp; done) | (go_simp; with_reducible rfl) | with_reducible rfl
  simp only [Act.put, List.setIfInBounds_toArray, List.set_cons_zero, List.set_cons_succ]
  refine tk (v := ?_) 14 ?_ ?_
  rotate_left
  · intro w hSw
    (try dsimp only at hSw)
    first | (go_simp; done) | (go_simp; with_reducible rfl) | with_reducible rfl
  simp only [Act.put, List.setIfInBounds_toArray, List.set_cons_zero, List.set_cons_succ]
  refine wpAnyH_done (by kernel_rfl) ?_ _
  go_wp2
  go_ret
  refine ⟨rfl, ?_⟩
  repeat (first | with_reducible exact N1.out | with_reducible refine Mod.alloc ?_ _ | with_reducible refine Mod.drew ?_ | with_reducible refine Mod.drewN ?_ _ | (with_reducible refine Mod.set ?_ _ _ (by first | exact .inl rfl | (right; omega) | (right; simp; done) | (right; simp; omega) | (left; omega) | (left; simp; done) | (left; simp; omega))) | (with_reducible refine Mod.putObj ?_ _ _ (by first | exact .inl rfl | (right; omega) | (right; simp; done) | (right; simp; omega) | (left; omega) | (left; simp; done) | (left; simp; omega))))
end Go.Proofs.YtecjdppkpfpniaaGreatDoor
