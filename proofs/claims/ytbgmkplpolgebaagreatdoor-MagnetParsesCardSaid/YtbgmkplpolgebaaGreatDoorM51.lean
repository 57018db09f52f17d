/-
  Several texts in one, in their build order. The walk of awake. Condition: the library's variable is as laid. The walk of the law MagnetParses. Condition: the library's variables are as laid. The library's variables, out of what a row lays and the world's shape. Plain facts over the program. No condition. The wrap of a row that lists variables: the contract is handed the reach and the world's shape. No condition.
-/
import Derived.Test.YtbgmkplpolgebaaGreatDoorM44
import Derived.OrdersHeld
import Derived.Test.YtbgmkplpolgebaaGreatDoorM47
import Derived.Test.YtbgmkplpolgebaaGreatDoorM49
import Derived.Test.YtbgmkplpolgebaaGreatDoorM50
import Derived.Test.YtbgmkplpolgebaaGreatDoorM18
import Derived.Test.YtbgmkplpolgebaaGreatDoorM30
import Derived.Test.YtbgmkplpolgebaaGreatDoorCards
import Derived.Lib.LaidU8
import Derived.SizedLaws
import Derived.Shelf.Vars
import Derived.Test.YtbgmkplpolgebaaGreatDoorRows
import Derived.Lay
import Derived.ProofKit
import Derived.OpenShut
import Derived.MakeChecks
import Derived.ChangeMaps5
namespace Go.Proofs.YtbgmkplpolgebaaGreatDoor
set_option linter.unusedSimpArgs false
set_option linter.unusedVariables false
open Go.RowKit Go.Shelf

theorem made_oneM (v : Value) (n : Nat) (hv : v.cells = #[v]) : madeCells v.cells n = Array.replicate n v := by
  apply Array.ext
  · simp [madeCells]
  · intro i h1 h2
    simp [madeCells, hv, Nat.mod_one]
theorem make_bytesM (n : Nat) (h : n ≤ 65536) (w : World) : (Instr.makeSlice 42 (.int .i64 n) (.int .i64 n)).run Tryz.prog w = .ok (.slice (some ⟨w.heap.size, 0, none⟩) n n) (w.alloc (.cells (Array.replicate n (.int .u8 0)) 5)) := by
  obtain ⟨i0, hi, hz0, hz1, hz2⟩ := info_parts info_byte
  have hr := run_makeSlice (P := Tryz.prog) w 42 5 i0 _ Tryz.underlying42 hi hz0 .i64 .i64 n n (by omega) (by omega) (by rw [hz1]; omega) (by rw [hz2]; omega) (by omega)
  rw [hr, hz1, Nat.mul_one, made_oneM _ _ rfl]
  simp
theorem zeros_text (W : World) (g : Nat) (h : W.heap.size = g) : (convert 42 9 (.slice (some ⟨g, 0, none⟩) 20 20)).run Tryz.prog (W.alloc (.cells (Array.replicate 20 (.int .u8 0)) 5)).drew = .ok (.string kZ) (W.alloc (.cells (Array.replicate 20 (.int .u8 0)) 5)).drew := by
  subst h
  have b : ByAt (W.alloc (.cells (Array.replicate 20 (.int .u8 0)) 5)) W.heap.size kZ.data.toList := by
    refine ByAt.of_blk (Blk.new W _ _) (by decide +kernel) (fun i hi => ?_)
    have hi' : i < 20 := hi
    have e : ∀ i (hi : i < kZ.data.toList.length), kZ.data.toList[i] = 0 := by decide +kernel
    rw [e i hi]
    simp [Array.getElem?_replicate, hi']
  exact (b.new (Mod.refl _ _).drew).text 20 20 (by decide +kernel)
set_option maxRecDepth 100000 in
set_option maxHeartbeats 4000000 in
theorem awake09_any (w : World) (hv : VarM w) : Calls Tryz.prog 7 #[] w fun e w' => e = .returned (.bool true) ∧ New w w' := by
  have HPA := hid (parse_awake w hv)
  unfold magA at HPA
  have hmk : ∀ w, (Instr.makeSlice 42 (.int .i64 20) (.int .i64 20)).run Tryz.prog w = .ok (.slice (some ⟨w.heap.size, 0, none⟩) 20 20) (w.alloc (.cells (Array.replicate 20 (.int .u8 0)) 5)) := make_bytesM 20 (by omega)
  have hzt := zeros_text
  have hNe : (kN.toList == [97, 32, 98]) = true := by decide +kernel
  go_enter Tryz.func7, Tryz.ntmps7
  go_wp2_with fail
  refine HPA.out.mono ?_
  rintro e w1 ⟨rfl, n1⟩
  have N1 := hid n1
  clear n1
  go_wp2
  have B0 := (Blk.new w1 #[.string kZ, .string ⟨#[]⟩, .string kN, .slice none 0 0, .slice none 0 0, .slice none 0 0, .slice none 0 0] 27).drew
  have HAL : Hid (∀ W : World, W.cell? ⟨w1.heap.size, 0, none⟩ = some (.string kZ) ∧ W.cell? ⟨w1.heap.size, 2, none⟩ = some (.string kN) → (W.alloc (.cells (Array.replicate 20 (.int .u8 0)) 5)).cell? ⟨w1.heap.size, 0, none⟩ = some (.string kZ) ∧ (W.alloc (.cells (Array.replicate 20 (.int .u8 0)) 5)).cell? ⟨w1.heap.size, 2, none⟩ = some (.string kN)) := hid (fun W ⟨h1, h2⟩ => ⟨New.cellv ((Mod.refl _ W).alloc _) h1, New.cellv ((Mod.refl _ W).alloc _) h2⟩)
  refine wp_region_held_drew (S := (fun w' => w'.cell? ⟨w1.heap.size, 0, none⟩ = some (.string kZ) ∧ w'.cell? ⟨w1.heap.size, 2, none⟩ = some (.string kN))) (by kernel_rfl) ⟨B0.cellv 0 rfl, B0.cellv 2 rfl⟩ (fun hHeld => ?_)
  clear B0
  refine tk (v := ?_) 0 ?_ ?_
  rotate_left
  · intro w hSw
    (try dsimp only at hSw)
    first | (go_simp; done) | (go_simp; with_reducible rfl) | with_reducible rfl
  simp only [Act.put, List.setIfInBounds_toArray, List.set_cons_zero, List.set_cons_succ]
  refine tk (v := ?_) 1 ?_ ?_
  rotate_left
  · intro w hSw
    (try dsimp only at hSw)
    first | (go_simp; done) | (go_simp; with_reducible rfl) | with_reducible rfl
  simp only [Act.put, List.setIfInBounds_toArray, List.set_cons_zero, List.set_cons_succ]
  refine tk (v := ?_) 2 ?_ ?_
  rotate_left
  · intro w hSw
    (try dsimp only at hSw)
    first | (go_simp; done) | (go_simp; with_reducible rfl) | with_reducible rfl
  simp only [Act.put, List.setIfInBounds_toArray, List.set_cons_zero, List.set_cons_succ]
  refine tk (v := ?_) 3 ?_ ?_
  rotate_left
  · intro w hSw
    (try dsimp only at hSw)
    first | (go_simp; done) | (go_simp; with_reducible rfl) | with_reducible rfl
  simp only [Act.put, List.setIfInBounds_toArray, List.set_cons_zero, List.set_cons_succ]
  refine tk (v := ?_) 4 ?_ ?_
  rotate_left
  · intro w hSw
    (try dsimp only at hSw)
    first | (go_simp; done) | (go_simp; with_reducible rfl) | with_reducible rfl
  simp only [Act.put, List.setIfInBounds_toArray, List.set_cons_zero, List.set_cons_succ]
  refine wpAnyH_ready (rs := [5]) (by kernel_rfl) (by simp) ?_
  refine AllReadyH.cons (by simp only [List.getElem?_toArray, List.getElem?_cons_succ, List.getElem?_cons_zero]; rfl) (fun K hK => ?_) AllReadyH.nil
  go_simp
  refine hK.out _ _ (by exact HAL.out _ hHeld) (fun hHeld5 => ?_)
  clear hK K
  try simp only [Act.put, List.setIfInBounds_toArray, List.set_cons_zero, List.set_cons_succ]
  clear hHeld
  have hHeld := hHeld5
  refine wpAnyH_ready (rs := [6]) (by kernel_rfl) (by simp) ?_
  refine AllReadyH.cons (by simp only [List.getElem?_toArray, List.getElem?_cons_succ, List.getElem?_cons_zero]; rfl) (fun K hK => ?_) AllReadyH.nil
  go_simp
  refine hK.out _ _ (by exact hHeld) (fun hHeld6 => ?_)
  clear hK K
  try simp only [Act.put, List.setIfInBounds_toArray, List.set_cons_zero, List.set_cons_succ]
  refine tk (v := ?_) 7 ?_ ?_
  rotate_left
  · intro w hSw
    (try dsimp only at hSw)
    first | (go_simp; done) | (go_simp; with_reducible rfl) | with_reducible rfl
  simp only [Act.put, List.setIfInBounds_toArray, List.set_cons_zero, List.set_cons_succ]
  refine tk (v := ?_) 8 ?_ ?_
  rotate_left
  · intro w hSw
    (try dsimp only at hSw)
    first | (go_simp; done) | (go_simp; with_reducible rfl) | with_reducible rfl
  simp only [Act.put, List.setIfInBounds_toArray, List.set_cons_zero, List.set_cons_succ]
  refine tk (v := ?_) 9 ?_ ?_
  rotate_left
  · intro w hSw
    (try dsimp only at hSw)
    first | (go_simp; done) | (go_simp; with_reducible rfl) | with_reducible rfl
  simp only [Act.put, List.setIfInBounds_toArray, List.set_cons_zero, List.set_cons_succ]
  refine tk (v := ?_) 10 ?_ ?_
  rotate_left
  · intro w hSw
    (try dsimp only at hSw)
    first | (go_simp; done) | (go_simp; with_reducible rfl) | with_reducible rfl
  simp only [Act.put, List.setIfInBounds_toArray, List.set_cons_zero, List.set_cons_succ]
  refine tk (v := ?_) 11 ?_ ?_
  rotate_left
  · intro w hSw
    (try dsimp only at hSw)
    first | (go_simp; done) | (go_simp; with_reducible rfl) | with_reducible rfl
  simp only [Act.put, List.setIfInBounds_toArray, List.set_cons_zero, List.set_cons_succ]
  refine tk (v := ?_) 12 ?_ ?_
  rotate_left
  · intro w hSw
    (try dsimp only at hSw)
    first | (go_simp; done) | (go_simp; with_reducible rfl) | with_reducible rfl
  simp only [Act.put, List.setIfInBounds_toArray, List.set_cons_zero, List.set_cons_succ]
  refine tk (v := ?_) 13 ?_ ?_
  rotate_left
  · intro w hSw
    (try dsimp only at hSw)
    first | (go_simp; done) | (go_simp; with_reducible rfl) | with_reducible rfl
  simp only [Act.put, List.setIfInBounds_toArray, List.set_cons_zero, List.set_cons_succ]
  refine tk (v := ?_) 14 ?_ ?_
  rotate_left
  · intro w hSw
    (try dsimp only at hSw)
    first | (go_simp; done) | (go_simp; with_reducible rfl) | with_reducible rfl
  simp only [Act.put, List.setIfInBounds_toArray, List.set_cons_zero, List.set_cons_succ]
  refine wpAnyH_done (by kernel_rfl) ?_ _
  go_wp2
  go_ret
  refine ⟨rfl, ?_⟩
  repeat (first | with_reducible exact N1.out | with_reducible refine Mod.alloc ?_ _ | with_reducible refine Mod.drew ?_ | with_reducible refine Mod.drewN ?_ _ | (with_reducible refine Mod.set ?_ _ _ (by first | exact .inl rfl | (right; omega) | (right; simp; done) | (right; simp; omega) | (left; omega) | (left; simp; done) | (left; simp; omega))) | (with_reducible refine Mod.putObj ?_ _ _ (by first | exact .inl rfl | (right; omega) | (right; simp; done) | (right; simp; omega) | (left; omega) | (left; simp; done) | (left; simp; omega))))
end Go.Proofs.YtbgmkplpolgebaaGreatDoor

namespace Go.Proofs.YtbgmkplpolgebaaGreatDoor
set_option linter.unusedSimpArgs false
set_option linter.unusedVariables false
open Go.RowKit Go.Shelf

theorem foldM_err : ∀ {A : List (List UInt8)} {m : MgV} {k : Int}, foldM m A = .error k → k ≠ 0
  | [], m, k, h => by cases h
  | p :: r, m, k, h => by
    simp only [foldM] at h
    cases hp : pieceM m p with
    | error k' => rw [hp] at h; injection h with h; subst h; exact pieceM_err hp
    | ok m1 => rw [hp] at h; exact foldM_err h
theorem magP_err {s : List UInt8} {k : Int} (h : magP s = .error k) : k ≠ 0 := by
  unfold magP at h
  split at h
  · cases h; decide
  · split at h
    · unfold restM at h
      cases hf : foldM mg0 (if s.drop 8 = [] then [] else pieces [] 38 (s.drop 8)) with
      | error k' => rw [hf] at h; injection h with h; subst h; exact foldM_err hf
      | ok m =>
        rw [hf] at h
        simp only [endM] at h
        split at h
        · cases h; decide
        · cases h
    · cases h; decide
theorem sameMg_self (m : MgV) : sameMg m m = true := by unfold sameMg; simp
theorem varPM {w : World} (h : VarP w) : VarM w := h.max
theorem magQ_no {base : Nat} {k : Int} {e : Ending} {w' : World} (h : magQ base (.error k) e w') : e = .returned (.tuple #[mag0V, .int .i64 k]) := h
theorem magQ_yes {base : Nat} {m : MgV} {e : Ending} {w' : World} (h : magQ base (.ok m) e w') : ∃ v, e = .returned (.tuple #[v, .int .i64 0]) ∧ MagIs w' base v m := h
set_option maxRecDepth 100000 in
set_option maxHeartbeats 8000000 in
theorem parses_any (s : ByteArray) (w : World) (hs : s.size ≤ maxLen) (hv : VarP w) : Calls Tryz.prog 3 #[.string s] w fun e w' => e = .returned (.bool true) ∧ New w w' := by
  have HA := hid (fun W (n : New w W) => awake09_any W (varPM (hv.new n)))
  by_cases h1 : 5000 < s.size ∧ s.size ≤ 65536
  · have h2I : (5000 : Int) < (s.size : Int) := by omega
    have h3I : (s.size : Int) ≤ 65536 := by omega
    clear h1 hs hv
    go_enter Tryz.func3, Tryz.ntmps3
    go_wp2_with fail
    refine (HA.out _ (Mod.refl _ _)).mono ?_
    rintro e w1 ⟨rfl, n1⟩
    have N1 := hid n1
    clear n1
    go_wp2
    go_ret
    exact ⟨rfl, N1.out⟩
  have hor : (¬ (5000 : Int) < (s.size : Int)) ∨ ((5000 : Int) < (s.size : Int) ∧ ¬ (s.size : Int) ≤ 65536) := by omega
  have HPM : Hid (∀ W, New w W → Calls Tryz.prog 8 #[.string s] W fun e w' => magQ W.heap.size (magP s.data.toList) e w' ∧ New W w') := hid (fun W n => by
    by_cases hb : 65536 < s.size
    · exact mParse_long s W hb hs
    · exact mParse_go s W (by omega) (hv.new n))
  have HPR := hid (fun W => rMParse_any s W hs)
  obtain ⟨X, hX⟩ : ∃ X, X = magP s.data.toList := ⟨_, rfl⟩
  rw [← hX] at HPM HPR
  clear h1 hs hv
  cases hXc : X with
  | error k =>
    rw [hXc] at HPM HPR
    have hk0 : (k == 0) = false := by rw [beq_eq_false_iff_ne]; exact magP_err (hX.symm.trans hXc)
    have hk1 : (k != 0) = true := by rw [bne, hk0]; rfl
    have hkk : (k == k) = true := beq_self_eq_true k
    have HSA := hid (fun W => rsame_any mg0 mg0 ⟨none, 0, none, 0, none, 0, none, 0⟩ ⟨none, 0, none, 0, none, 0, none, 0⟩ W (MagAt.zero W) (MagAt.zero W))
    rw [sameMg_self] at HSA
    simp only [magVal, magRow, mg0, List.length_nil] at HSA
    clear hX hXc
    rcases hor with h2I | ⟨h2I, h3I⟩
    all_goals
      go_enter Tryz.func3, Tryz.ntmps3
      go_wp2_with fail
      refine (HPM.out _ (Mod.refl _ _)).mono ?_
      rintro e w1 ⟨hq, n1⟩
      obtain rfl := magQ_no hq
      have N1 := hid n1
      clear hq n1
      unfold mag0V
      go_wp2_with fail
      refine name_worldA (p := fun W => Calls _ _ _ W _) (fun W2 hW => ?_)
      have B1x : Blk W2 w1.heap.size #[.string ⟨#[]⟩, .string ⟨#[]⟩, .string ⟨#[]⟩, .slice none 0 0, .slice none 0 0, .slice none 0 0, .slice none 0 0] 27 := by
        rw [hW]
        apply Blk.row
        · repeat (first | with_reducible exact hW | (with_reducible apply Blk.newAt; (simp; done)) | with_reducible apply Blk.alloc | with_reducible apply Blk.drew | with_reducible apply Blk.drewN | with_reducible apply Blk.set | (with_reducible apply Blk.other; · first | (simp; done) | (simp; omega) | omega) | (with_reducible apply Blk.putObj; · first | (simp; done) | (simp; omega) | omega))
        · rfl
      have N1x : New w1 W2 := by
        rw [hW]
        repeat (first | with_reducible exact Mod.refl _ w1 | with_reducible refine Mod.alloc ?_ _ | with_reducible refine Mod.drew ?_ | with_reducible refine Mod.drewN ?_ _ | (with_reducible refine Mod.set ?_ _ _ (by first | exact .inl rfl | (right; omega) | (right; simp; done) | (right; simp; omega) | (left; omega) | (left; simp; done) | (left; simp; omega))) | (with_reducible refine Mod.putObj ?_ _ _ (by first | exact .inl rfl | (right; omega) | (right; simp; done) | (right; simp; omega) | (left; omega) | (left; simp; done) | (left; simp; omega))))
      have B2 := hid B1x; have M2 := hid N1x
      clear hW B1x N1x
      refine (HPR.out _).mono ?_
      rintro e w3 ⟨hq, n3⟩
      obtain rfl := magQ_no hq
      have B3 := hid (New.blk n3 B2.out)
      have N3 := hid ((N1.out.trans M2.out).trans n3)
      clear hq n3
      unfold mag0V
      have c0 := B3.out.cellv 0 rfl; have c1 := B3.out.cellv 1 rfl; have c2 := B3.out.cellv 2 rfl; have c3 := B3.out.cellv 3 rfl; have c4 := B3.out.cellv 4 rfl; have c5 := B3.out.cellv 5 rfl; have c6 := B3.out.cellv 6 rfl; have cl := B3.out.lt
      go_wp2_with fail
      refine name_worldA (p := fun W => Calls _ _ _ W _) (fun W4 hW => ?_)
      have B1x : Blk W4 w3.heap.size #[.string ⟨#[]⟩, .string ⟨#[]⟩, .string ⟨#[]⟩, .slice none 0 0, .slice none 0 0, .slice none 0 0, .slice none 0 0] 27 := by
        rw [hW]
        apply Blk.row
        · repeat (first | with_reducible exact hW | (with_reducible apply Blk.newAt; (simp; done)) | with_reducible apply Blk.alloc | with_reducible apply Blk.drew | with_reducible apply Blk.drewN | with_reducible apply Blk.set | (with_reducible apply Blk.other; · first | (simp; done) | (simp; omega) | omega) | (with_reducible apply Blk.putObj; · first | (simp; done) | (simp; omega) | omega))
        · rfl
      have N1x : New w3 W4 := by
        rw [hW]
        repeat (first | with_reducible exact Mod.refl _ w3 | with_reducible refine Mod.alloc ?_ _ | with_reducible refine Mod.drew ?_ | with_reducible refine Mod.drewN ?_ _ | (with_reducible refine Mod.set ?_ _ _ (by first | exact .inl rfl | (right; omega) | (right; simp; done) | (right; simp; omega) | (left; omega) | (left; simp; done) | (left; simp; omega))) | (with_reducible refine Mod.putObj ?_ _ _ (by first | exact .inl rfl | (right; omega) | (right; simp; done) | (right; simp; omega) | (left; omega) | (left; simp; done) | (left; simp; omega))))
      have B4 := hid B1x; have M4 := hid N1x
      clear hW B1x N1x
      refine (HSA.out _).mono ?_
      rintro e w5 ⟨rfl, n5⟩
      have N5 := hid ((N3.out.trans M4.out).trans n5)
      clear n5 c0 c1 c2 c3 c4 c5 c6
      go_wp2_with fail
      refine (HA.out _ N5.out).mono ?_
      rintro e w7 ⟨rfl, n7⟩
      have N7 := hid (N5.out.trans n7)
      clear n7
      go_wp2
      go_ret
      exact ⟨rfl, N7.out⟩
  | ok m =>
    rw [hXc] at HPM HPR
    obtain ⟨hok, hne⟩ := magP_ok (hX.symm.trans hXc)
    have g1 : ∀ s ∈ m.tr, s.size ≤ maxLen := fun s h => by have := (hok.tr s h).2; unfold maxLen; omega
    have g2 : ∀ s ∈ m.ws, s.size ≤ maxLen := fun s h => by have := (hok.ws s h).2; unfold maxLen; omega
    have g3 : ∀ x ∈ m.pe, x.ip.size ≤ maxLen := fun x h => by
      have := (adrOk_iff.1 (hok.pe x h)).1
      unfold maxLen
      omega
    have HSA := hid (fun W p q (h : MagAt W m p) (k : MagAt W m q) => rsame_any m m p q W h k)
    rw [sameMg_self] at HSA
    have HVA := hid (fun W p (h : MagAt W m p) => mValid_yes m p W h hok hne)
    have HAT := hid (fun (W : World) (b : Nat) (v : Value) (h : MagIs W b v m) => MagIs.at' h g1 g2 g3)
    clear hX hXc hok hne g1 g2 g3
    rcases hor with h2I | ⟨h2I, h3I⟩
    all_goals
      go_enter Tryz.func3, Tryz.ntmps3
      go_wp2_with fail
      refine (HPM.out _ (Mod.refl _ _)).mono ?_
      rintro e w1 ⟨hq, n1⟩
      obtain ⟨v1, rfl, hm1⟩ := magQ_yes hq
      obtain ⟨⟨ta, tc, pa, pc, sa, sc, oa, oc⟩, rfl, ha1⟩ := HAT.out _ _ _ hm1
      have N1 := hid n1
      have A1 := hid ha1
      clear hq n1 hm1 ha1
      simp only [magVal, magRow]
      go_wp2_with fail
      refine name_worldA (p := fun W => Calls _ _ _ W _) (fun W2 hW => ?_)
      have B1x : Blk W2 w1.heap.size #[.string m.old, .string m.new, .string m.name, .slice ta m.tr.length tc, .slice pa m.pe.length pc, .slice sa m.ws.length sc, .slice oa m.on.length oc] 27 := by
        rw [hW]
        apply Blk.row
        · repeat (first | with_reducible exact hW | (with_reducible apply Blk.newAt; (simp; done)) | with_reducible apply Blk.alloc | with_reducible apply Blk.drew | with_reducible apply Blk.drewN | with_reducible apply Blk.set | (with_reducible apply Blk.other; · first | (simp; done) | (simp; omega) | omega) | (with_reducible apply Blk.putObj; · first | (simp; done) | (simp; omega) | omega))
        · rfl
      have N1x : New w1 W2 := by
        rw [hW]
        repeat (first | with_reducible exact Mod.refl _ w1 | with_reducible refine Mod.alloc ?_ _ | with_reducible refine Mod.drew ?_ | with_reducible refine Mod.drewN ?_ _ | (with_reducible refine Mod.set ?_ _ _ (by first | exact .inl rfl | (right; omega) | (right; simp; done) | (right; simp; omega) | (left; omega) | (left; simp; done) | (left; simp; omega))) | (with_reducible refine Mod.putObj ?_ _ _ (by first | exact .inl rfl | (right; omega) | (right; simp; done) | (right; simp; omega) | (left; omega) | (left; simp; done) | (left; simp; omega))))
      have B2 := hid B1x; have M2 := hid N1x
      clear hW B1x N1x
      refine (HPR.out _).mono ?_
      rintro e w3 ⟨hq, n3⟩
      obtain ⟨v3, rfl, hm3⟩ := magQ_yes hq
      obtain ⟨⟨tb, td, pb, pd, sb, sd, ob, od⟩, rfl, ha3⟩ := HAT.out _ _ _ hm3
      have B3 := hid (New.blk n3 B2.out)
      have N3 := hid ((N1.out.trans M2.out).trans n3)
      have A13 := hid (A1.out.new (M2.out.trans n3))
      have A3 := hid ha3
      clear hq n3 hm3 ha3
      simp only [magVal, magRow]
      have c0 := B3.out.cellv 0 rfl; have c1 := B3.out.cellv 1 rfl; have c2 := B3.out.cellv 2 rfl; have c3 := B3.out.cellv 3 rfl; have c4 := B3.out.cellv 4 rfl; have c5 := B3.out.cellv 5 rfl; have c6 := B3.out.cellv 6 rfl; have cl := B3.out.lt
      go_wp2_with fail
      refine name_worldA (p := fun W => Calls _ _ _ W _) (fun W4 hW => ?_)
      have B1x : Blk W4 w3.heap.size #[.string m.old, .string m.new, .string m.name, .slice tb m.tr.length td, .slice pb m.pe.length pd, .slice sb m.ws.length sd, .slice ob m.on.length od] 27 := by
        rw [hW]
        apply Blk.row
        · repeat (first | with_reducible exact hW | (with_reducible apply Blk.newAt; (simp; done)) | with_reducible apply Blk.alloc | with_reducible apply Blk.drew | with_reducible apply Blk.drewN | with_reducible apply Blk.set | (with_reducible apply Blk.other; · first | (simp; done) | (simp; omega) | omega) | (with_reducible apply Blk.putObj; · first | (simp; done) | (simp; omega) | omega))
        · rfl
      have N1x : New w3 W4 := by
        rw [hW]
        repeat (first | with_reducible exact Mod.refl _ w3 | with_reducible refine Mod.alloc ?_ _ | with_reducible refine Mod.drew ?_ | with_reducible refine Mod.drewN ?_ _ | (with_reducible refine Mod.set ?_ _ _ (by first | exact .inl rfl | (right; omega) | (right; simp; done) | (right; simp; omega) | (left; omega) | (left; simp; done) | (left; simp; omega))) | (with_reducible refine Mod.putObj ?_ _ _ (by first | exact .inl rfl | (right; omega) | (right; simp; done) | (right; simp; omega) | (left; omega) | (left; simp; done) | (left; simp; omega))))
      have B4 := hid B1x; have M4 := hid N1x
      clear hW B1x N1x
      have A14 := hid (A13.out.new M4.out)
      have A34 := hid (A3.out.new M4.out)
      have B34 := hid (New.blk M4.out B3.out)
      refine (HSA.out W4 ⟨ta, tc, pa, pc, sa, sc, oa, oc⟩ ⟨tb, td, pb, pd, sb, sd, ob, od⟩ A14.out A34.out).mono ?_
      rintro e w5 ⟨rfl, n5⟩
      have N5 := hid ((N3.out.trans M4.out).trans n5)
      have A15 := hid (A14.out.new n5)
      have B35 := hid (New.blk n5 B34.out)
      clear n5 c0 c1 c2 c3 c4 c5 c6
      have c0 := B35.out.cellv 0 rfl; have c1 := B35.out.cellv 1 rfl; have c2 := B35.out.cellv 2 rfl; have c3 := B35.out.cellv 3 rfl; have c4 := B35.out.cellv 4 rfl; have c5 := B35.out.cellv 5 rfl; have c6 := B35.out.cellv 6 rfl; have cl := B35.out.lt
      go_wp2_with fail
      refine (HVA.out _ ⟨ta, tc, pa, pc, sa, sc, oa, oc⟩ A15.out).mono ?_
      rintro e w6 ⟨rfl, n6⟩
      have N6 := hid (N5.out.trans n6)
      clear n6 c0 c1 c2 c3 c4 c5 c6
      go_wp2_with fail
      refine (HA.out _ N6.out).mono ?_
      rintro e w7 ⟨rfl, n7⟩
      have N7 := hid (N6.out.trans n7)
      clear n7
      go_wp2
      go_ret
      exact ⟨rfl, N7.out⟩
end Go.Proofs.YtbgmkplpolgebaaGreatDoor

namespace Go.Proofs.YtbgmkplpolgebaaGreatDoor
set_option linter.unusedSimpArgs false
set_option linter.unusedVariables false
open Go.ChangeShapes Go.WideShapes Go.ChangeAt Go.RowKit Go.Deep

theorem tab_reads {P : Program} {W : World} {name : String} {k : IntKind} {zs : List Int} {g : Nat} {t e : TypeId} {n : Nat}
    (hg : P.globalNamed name = some g) (hty : (P.globals[g]?).map (·.type) = some t) (ht : P.underlying t = some (.array n e)) (he : P.underlying e = some (.int k)) (hce : P.cellsOf e = 1) (hct : P.cellsOf t = n)
    (h : Lib.VarReads P W name (Lib.tabData k zs)) : Lib.TabIs P W name k zs := by
  obtain ⟨g', t', cs, fuel, p, hg', ht', hvar, hd⟩ := h
  obtain rfl := Option.some.inj (hg.symm.trans hg')
  obtain rfl := Option.some.inj (hty.symm.trans ht')
  unfold Lib.TabIs
  rw [hvar, ← Lib.cells_of_tab ht he hce hct hd]
theorem iface_reads {P : Program} {n nm : String} {d : DataW Unit} {W : World} {g : Nat} {ti : TypeId} {ms : Array (String × TypeId)} (h : Lib.VarReads P W n (.iface nm d)) (hg : P.globalNamed n = some g) (ht : (P.globals[g]?).map (·.type) = some ti) (hi : P.underlying ti = some (.interface ms)) :
    ∃ tp v, W.var? P n = some #[.iface tp v] := by
  obtain ⟨g0, t0, cs0, f0, p0, hg0, ht0, hv0, hd0⟩ := h
  obtain rfl := Option.some.inj (hg.symm.trans hg0)
  obtain rfl := Option.some.inj (ht.symm.trans ht0)
  obtain ⟨f1, u, v, hc, -, -⟩ := iface_of_trod hi hd0
  refine ⟨u, v, ?_⟩
  rw [hv0]
  congr 1
  apply Array.toList_inj.1
  rw [hc]
def litZ : DataW Unit → Int
  | .lit (.int _ z) => z
  | _ => 0
def tz64 : List Int := match (Rows.laid_math_bits_deBruijn64tab : DataW Unit) with
  | .agg l => l.map litZ
  | _ => []
theorem tz_data : (Rows.laid_math_bits_deBruijn64tab : DataW Unit) = Lib.tabData .u8 tz64 := by kernel_rfl
theorem syn_typeP : Tryz.prog.globalNamed "strconv.ErrSyntax" = some 5 ∧ (Tryz.prog.globals[5]?).map (·.type) = some 141 := ⟨by kernel_rfl, by kernel_rfl⟩
theorem rng_typeP : Tryz.prog.globalNamed "strconv.ErrRange" = some 6 ∧ (Tryz.prog.globals[6]?).map (·.type) = some 141 := ⟨by kernel_rfl, by kernel_rfl⟩
theorem tz_type : Tryz.prog.globalNamed "math/bits.deBruijn64tab" = some 8 ∧ (Tryz.prog.globals[8]?).map (·.type) = some 245 := ⟨by kernel_rfl, by kernel_rfl⟩
theorem pw_type : Tryz.prog.globalNamed "internal/strconv.uint64pow10" = some 4 ∧ (Tryz.prog.globals[4]?).map (·.type) = some 230 := ⟨by kernel_rfl, by kernel_rfl⟩
theorem vars_ofP {l : List (String × DataW Unit)} {W : World} (h : laidMet Tryz.prog l W) (hs : W.ShapedOpen Tryz.prog)
    (m1 : ("math/bits.deBruijn64tab", Rows.laid_math_bits_deBruijn64tab) ∈ l) (m2 : ("internal/strconv.uint64pow10", Rows.laid_internal_strconv_uint64pow10) ∈ l) (m3 : ("strconv.ErrRange", Rows.laid_strconv_ErrRange) ∈ l) (m4 : ("strconv.ErrSyntax", Rows.laid_strconv_ErrSyntax) ∈ l) : VarP W := by
  refine ⟨?_, ?_, ?_, ?_, ?_⟩
  · exact tab_reads pw_type.1 pw_type.2 Tryz.underlying230 Tryz.underlying191 (by kernel_rfl) (by kernel_rfl) (Lib.laidMet.reads h m2)
  · exact iface_reads (Lib.laidMet.reads h m4) syn_typeP.1 syn_typeP.2 Tryz.underlying141
  · exact iface_reads (Lib.laidMet.reads h m3) rng_typeP.1 rng_typeP.2 Tryz.underlying141
  · exact cell_of_shapedOpen_int (g := 0) (t := 3) (zero := #[.int .i64 0]) hs (of_decide_eq_true (by kernel_rfl)) (by kernel_rfl) rfl (by kernel_rfl) (by kernel_rfl) Tryz.underlying3
  · have ht := tab_reads (zs := tz64) tz_type.1 tz_type.2 Tryz.underlying245 Tryz.underlying5 (by kernel_rfl) (by kernel_rfl) (tz_data ▸ Lib.laidMet.reads h m1)
    have := ht.cell tz_type.1 15 (by decide +kernel)
    rw [this]
    rfl
end Go.Proofs.YtbgmkplpolgebaaGreatDoor

namespace Go.Proofs.YtbgmkplpolgebaaGreatDoor
set_option linter.unusedSimpArgs false
set_option linter.unusedVariables false
open Go.ChangeShapes Go.WideShapes Go.ChangeAt Go.RowKit

section
variable {H : Type} {enc : TypeId × Value → H}
theorem returnsInHanded_full {a : Assume} {C : Checked} {os : Os} {f : FuncId} {fn : Func} {s : ChangeSpec} {conds : List PathCond} {apart fresh handsOn again : Bool} {X : World → Array Value → Prop}
    (hX : ∀ (w w' : World) (args : Array Value), w.heap = w'.heap → X w args → X w' args)
    (own : ownKnob C.prog.godebug = none) (started : os.Started) (noInit : C.prog.inits.idxOf? f = none) (hfn : C.prog.funcs[f]? = some fn)
    (witness : ∃ (w : World) (tape : Tape) (i : Input), w.os = os ∧ (w.forCall tape i).Shaped C.prog ∧ i.vars = [] ∧ Input.okWide C.prog (w.forCall tape i) .any w.heap.size f i ∧
      ((s.pre enc C.prog fn conds apart (w.forCall tape i).memory i.args ∧ X (w.forCall tape i).memory i.args) ∧ sizedMet enc C.prog fn (OpenSpec.ofChange s) apart (w.forCall tape i).memory i.args) ∧ a.holds C.prog (lone (Frame.enter C.prog f i.args .normal) [] (w.forCall tape i)))
    (contract : ∀ (W : World) (base : Nat) (args : Array Value) (ds gs : List (DataW H)) (before : List MemPlace),
      (∀ (j : Nat) t v, fn.params[j]? = some t → args[j]? = some v → Value.okWide C.prog W .any base t v) →
      DataW.Whole enc C.prog fn.params.toList s.vars apart W args.toList ds gs before →
      conds.all (PathCond.test C.prog ⟨fn.params.toList, ds, s.plain.varTypes C.prog, gs⟩) = true →
      (DataW.weightsEach C.prog (fn.params.toList ++ s.plain.varTypes C.prog) (ds ++ gs)).all (· ≤ reachBytes) = true → X W args → W.ShapedOpen C.prog →
      a.holds C.prog (lone (Frame.enter C.prog f args .normal) [] W) →
      Calls C.prog f args W fun e W' => ∃ v, e = .returned v ∧ s.post enc C.prog fn apart fresh handsOn again W args v W') :
    ReturnsInHanded a C os f .any (fun w args => (s.pre enc C.prog fn conds apart w args ∧ X w args) ∧ sizedMet enc C.prog fn (OpenSpec.ofChange s) apart w args) (s.post enc C.prog fn apart fresh handsOn again) := by
  refine returnsInHanded_of_calls own started noInit witness ?_
  intro w tape i _ hsh _ hok hpre hholds
  obtain ⟨_, _, _, fn', hfn', _, _, _, _, hval⟩ := hok
  have e : fn' = fn := Option.some.inj (hfn'.symm.trans hfn)
  subst e
  obtain ⟨⟨⟨ds, gs, before, hw, hc⟩, hx⟩, hz⟩ := hpre
  have hw' := DataW.Whole.of_heap (w' := w.forCall tape i) (by rfl) hw
  refine (contract (w.forCall tape i) w.heap.size i.args ds gs before hval hw' hc (hz.weights hw) (hX _ _ _ (by rfl) hx) hsh hholds).mono fun e W' ⟨v, he, hp⟩ => ?_
  subst he
  exact ChangeSpec.post_blind hp
end
theorem ownT : ownKnob Tryz.prog.godebug = none := by kernel_rfl
theorem laidOutT : laidOutB Tryz.prog = true := by kernel_rfl
end Go.Proofs.YtbgmkplpolgebaaGreatDoor
