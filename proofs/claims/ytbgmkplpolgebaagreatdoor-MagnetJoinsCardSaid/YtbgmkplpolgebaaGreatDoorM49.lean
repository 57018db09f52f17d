/-
  Several texts in one, in their build order. The walk of awake. Condition: the library's variable is as laid. The walk of the law MagnetJoins. Condition: the magnets lie as told; the library's variable holds a number. The wrap of a row that lists variables: the contract is handed the reach and the world's shape. No condition. A struct by value, of any number of fields of one cell each, opened. Over any program. No condition.
-/
import Derived.Test.YtbgmkplpolgebaaGreatDoorM28
import Derived.OrdersHeld
import Derived.Test.YtbgmkplpolgebaaGreatDoorM38
import Derived.Test.YtbgmkplpolgebaaGreatDoorM48
import Derived.Test.YtbgmkplpolgebaaGreatDoorRows
import Derived.SizedLaws
import Derived.Lay
import Derived.ProofKit
import Derived.OpenShut
import Derived.MakeChecks
import Derived.ChangeMaps5
import Derived.Lib.SmallJoins
import Derived.Deep.Slices
import Derived.Deep.Fields
import Derived.ChangeSame
namespace Go.Proofs.YtbgmkplpolgebaaGreatDoor
set_option linter.unusedSimpArgs false
set_option linter.unusedVariables false
open Go.RowKit Go.Shelf

theorem made_oneM (v : Value) (n : Nat) (hv : v.cells = #[v]) : madeCells v.cells n = Array.replicate n v := by
  apply Array.ext
  · simp [madeCells]
  · intro i h1 h2
    simp [madeCells, hv, Nat.mod_one]
theorem make_bytesM (n : Nat) (h : n ≤ 65536) (w : World) : (Instr.makeSlice 42 (.int .i64 n) (.int .i64 n)).run Tryz.prog w = .ok (.slice (some ⟨w.heap.size, 0, none⟩) n n) (w.alloc (.cells (Array.replicate n (.int .u8 0)) 5)) := by
  obtain ⟨i0, hi, hz0, hz1, hz2⟩ := info_parts info_byte
  have hr := run_makeSlice (P := Tryz.prog) w 42 5 i0 _ Tryz.underlying42 hi hz0 .i64 .i64 n n (by omega) (by omega) (by rw [hz1]; omega) (by rw [hz2]; omega) (by omega)
  rw [hr, hz1, Nat.mul_one, made_oneM _ _ rfl]
  simp
theorem zeros_text (W : World) (g : Nat) (h : W.heap.size = g) : (convert 42 9 (.slice (some ⟨g, 0, none⟩) 20 20)).run Tryz.prog (W.alloc (.cells (Array.replicate 20 (.int .u8 0)) 5)).drew = .ok (.string kZ) (W.alloc (.cells (Array.replicate 20 (.int .u8 0)) 5)).drew := by
  subst h
  have b : ByAt (W.alloc (.cells (Array.replicate 20 (.int .u8 0)) 5)) W.heap.size kZ.data.toList := by
    refine ByAt.of_blk (Blk.new W _ _) (by decide +kernel) (fun i hi => ?_)
    have hi' : i < 20 := hi
    have e : ∀ i (hi : i < kZ.data.toList.length), kZ.data.toList[i] = 0 := by decide +kernel
    rw [e i hi]
    simp [Array.getElem?_replicate, hi']
  exact (b.new (Mod.refl _ _).drew).text 20 20 (by decide +kernel)
set_option maxRecDepth 100000 in
set_option maxHeartbeats 4000000 in
theorem awake09_any (w : World) (hv : VarM w) : Calls Tryz.prog 7 #[] w fun e w' => e = .returned (.bool true) ∧ New w w' := by
  have HPA := hid (parse_awake w hv)
  unfold magA at HPA
  have hmk : ∀ w, (Instr.makeSlice 42 (.int .i64 20) (.int .i64 20)).run Tryz.prog w = .ok (.slice (some ⟨w.heap.size, 0, none⟩) 20 20) (w.alloc (.cells (Array.replicate 20 (.int .u8 0)) 5)) := make_bytesM 20 (by omega)
  have hzt := zeros_text
  have hNe : (kN.toList == [97, 32, 98]) = true := by decide +kernel
  go_enter Tryz.func7, Tryz.ntmps7
  go_wp2_with fail
  refine HPA.out.mono ?_
  rintro e w1 ⟨rfl, n1⟩
  have N1 := hid n1
  clear n1
  go_wp2
  have B0 := (Blk.new w1 #[.string kZ, .string ⟨#[]⟩, .string kN, .slice none 0 0, .slice none 0 0, .slice none 0 0, .slice none 0 0] 27).drew
  have HAL : Hid (∀ W : World, W.cell? ⟨w1.heap.size, 0, none⟩ = some (.string kZ) ∧ W.cell? ⟨w1.heap.size, 2, none⟩ = some (.string kN) → (W.alloc (.cells (Array.replicate 20 (.int .u8 0)) 5)).cell? ⟨w1.heap.size, 0, none⟩ = some (.string kZ) ∧ (W.alloc (.cells (Array.replicate 20 (.int .u8 0)) 5)).cell? ⟨w1.heap.size, 2, none⟩ = some (.string kN)) := hid (fun W ⟨h1, h2⟩ => ⟨New.cellv ((Mod.refl _ W).alloc _) h1, New.cellv ((Mod.refl _ W).alloc _) h2⟩)
  refine wp_region_held_drew (S := (fun w' => w'.cell? ⟨w1.heap.size, 0, none⟩ = some (.string kZ) ∧ w'.cell? ⟨w1.heap.size, 2, none⟩ = some (.string kN))) (by kernel_rfl) ⟨B0.cellv 0 rfl, B0.cellv 2 rfl⟩ (fun hHeld => ?_)
  clear B0
  refine tk (v := ?_) 0 ?_ ?_
  rotate_left
  · intro w hSw
    (try dsimp only at hSw)
    first | (go_simp; done) | (go_simp; with_reducible rfl) | with_reducible rfl
  simp only [Act.put, List.setIfInBounds_toArray, List.set_cons_zero, List.set_cons_succ]
  refine tk (v := ?_) 1 ?_ ?_
  rotate_left
  · intro w hSw
    (try dsimp only at hSw)
    first | (go_simp; done) | (go_simp; with_reducible rfl) | with_reducible rfl
  simp only [Act.put, List.setIfInBounds_toArray, List.set_cons_zero, List.set_cons_succ]
  refine tk (v := ?_) 2 ?_ ?_
  rotate_left
  · intro w hSw
    (try dsimp only at hSw)
    first | (go_simp; done) | (go_simp; with_reducible rfl) | with_reducible rfl
  simp only [Act.put, List.setIfInBounds_toArray, List.set_cons_zero, List.set_cons_succ]
  refine tk (v := ?_) 3 ?_ ?_
  rotate_left
  · intro w hSw
    (try dsimp only at hSw)
    first | (go_simp; done) | (go_simp; with_reducible rfl) | with_reducible rfl
  simp only [Act.put, List.setIfInBounds_toArray, List.set_cons_zero, List.set_cons_succ]
  refine tk (v := ?_) 4 ?_ ?_
  rotate_left
  · intro w hSw
    (try dsimp only at hSw)
    first | (go_simp; done) | (go_simp; with_reducible rfl) | with_reducible rfl
  simp only [Act.put, List.setIfInBounds_toArray, List.set_cons_zero, List.set_cons_succ]
  refine wpAnyH_ready (rs := [5]) (by kernel_rfl) (by simp) ?_
  refine AllReadyH.cons (by simp only [List.getElem?_toArray, List.getElem?_cons_succ, List.getElem?_cons_zero]; rfl) (fun K hK => ?_) AllReadyH.nil
  go_simp
  refine hK.out _ _ (by exact HAL.out _ hHeld) (fun hHeld5 => ?_)
  clear hK K
  try simp only [Act.put, List.setIfInBounds_toArray, List.set_cons_zero, List.set_cons_succ]
  clear hHeld
  have hHeld := hHeld5
  refine wpAnyH_ready (rs := [6]) (by kernel_rfl) (by simp) ?_
  refine AllReadyH.cons (by simp only [List.getElem?_toArray, List.getElem?_cons_succ, List.getElem?_cons_zero]; rfl) (fun K hK => ?_) AllReadyH.nil
  go_simp
  refine hK.out _ _ (by exact hHeld) (fun hHeld6 => ?_)
  clear hK K
  try simp only [Act.put, List.setIfInBounds_toArray, List.set_cons_zero, List.set_cons_succ]
  refine tk (v := ?_) 7 ?_ ?_
  rotate_left
  · intro w hSw
    (try dsimp only at hSw)
    first | (go_simp; done) | (go_simp; with_reducible rfl) | with_reducible rfl
  simp only [Act.put, List.setIfInBounds_toArray, List.set_cons_zero, List.set_cons_succ]
  refine tk (v := ?_) 8 ?_ ?_
  rotate_left
  · intro w hSw
    (try dsimp only at hSw)
    first | (go_simp; done) | (go_simp; with_reducible rfl) | with_reducible rfl
  simp only [Act.put, List.setIfInBounds_toArray, List.set_cons_zero, List.set_cons_succ]
  refine tk (v := ?_) 9 ?_ ?_
  rotate_left
  · intro w hSw
    (try dsimp only at hSw)
    first | (go_simp; done) | (go_simp; with_reducible rfl) | with_reducible rfl
  simp only [Act.put, List.setIfInBounds_toArray, List.set_cons_zero, List.set_cons_succ]
  refine tk (v := ?_) 10 ?_ ?_
  rotate_left
  · intro w hSw
    (try dsimp only at hSw)
    first | (go_simp; done) | (go_simp; with_reducible rfl) | with_reducible rfl
  simp only [Act.put, List.setIfInBounds_toArray, List.set_cons_zero, List.set_cons_succ]
  refine tk (v := ?_) 11 ?_ ?_
  rotate_left
  · intro w hSw
    (try dsimp only at hSw)
    first | (go_simp; done) | (go_simp; with_reducible rfl) | with_reducible rfl
  simp only [Act.put, List.setIfInBounds_toArray, List.set_cons_zero, List.set_cons_succ]
  refine tk (v := ?_) 12 ?_ ?_
  rotate_left
  · intro w hSw
    (try dsimp only at hSw)
    first | (go_simp; done) | (go_simp; with_reducible rfl) | with_reducible rfl
  simp only [Act.put, List.setIfInBounds_toArray, List.set_cons_zero, List.set_cons_succ]
  refine tk (v := ?_) 13 ?_ ?_
  rotate_left
  · intro w hSw
    (try dsimp only at hSw)
    first | (go_simp; done) | (go_simp; with_reducible rfl) | with_reducible rfl
  simp only [Act.put, List.setIfInBounds_toArray, List.set_cons_zero, List.set_cons_succ]
  refine tk (v := ?_) 14 ?_ ?_
  rotate_left
  · intro w hSw
    (try dsimp only at hSw)
    first | (go_simp; done) | (go_simp; with_reducible rfl) | with_reducible rfl
  simp only [Act.put, List.setIfInBounds_toArray, List.set_cons_zero, List.set_cons_succ]
  refine wpAnyH_done (by kernel_rfl) ?_ _
  go_wp2
  go_ret
  refine ⟨rfl, ?_⟩
  repeat (first | with_reducible exact N1.out | with_reducible refine Mod.alloc ?_ _ | with_reducible refine Mod.drew ?_ | with_reducible refine Mod.drewN ?_ _ | (with_reducible refine Mod.set ?_ _ _ (by first | exact .inl rfl | (right; omega) | (right; simp; done) | (right; simp; omega) | (left; omega) | (left; simp; done) | (left; simp; omega))) | (with_reducible refine Mod.putObj ?_ _ _ (by first | exact .inl rfl | (right; omega) | (right; simp; done) | (right; simp; omega) | (left; omega) | (left; simp; done) | (left; simp; omega))))
end Go.Proofs.YtbgmkplpolgebaaGreatDoor

namespace Go.Proofs.YtbgmkplpolgebaaGreatDoor
set_option linter.unusedSimpArgs false
set_option linter.unusedVariables false
open Go.RowKit Go.Shelf

def resM : Except Int MgV → MgV
  | .error _ => mg0
  | .ok m => m
def errX : Except Int MgV → Int
  | .error k => k
  | .ok _ => 0
theorem joinQ_any {X : Except Int MgV} {e : Ending} {w' : World} (h : joinQ X e w') : ∃ P, e = .returned (.tuple #[magVal (resM X) P, .int .i64 (errX X)]) ∧ MagAt w' (resM X) P := by
  cases X with
  | error k => exact ⟨⟨none, 0, none, 0, none, 0, none, 0⟩, joinQ_no h, MagAt.zero _⟩
  | ok m =>
    obtain ⟨P, h1, h2, -⟩ := joinQ_yes h
    exact ⟨P, h1, h2⟩
theorem sameMg_own (m : MgV) : sameMg m m = true := by unfold sameMg; simp
set_option maxRecDepth 100000 in
set_option maxHeartbeats 16000000 in
theorem joins_any (m n : MgV) (p q : MgP) (w : World) (h : MagAt w m p) (k : MagAt w n q) (hp : Tidy p) (hq : Tidy q) (hv : VarM w) :
    Calls Tryz.prog 4 #[magVal m p, magVal n q] w fun e w' => e = .returned (.bool true) ∧ New w w' := by
  have HA := hid (fun W (n : New w W) => awake09_any W (hv.new n))
  have HLM := hid (fun W (l : New w W) => light09_any m p W (h.new l))
  have HLN := hid (fun W (l : New w W) => light09_any n q W (k.new l))
  have HJ := hid (fun W (l : New w W) => mJoin_any m n p q W (h.new l) (k.new l) hp hq)
  have HR := hid (fun W (l : New w W) => rJoin09_any m n p q W (h.new l) (k.new l) hp hq)
  have HVM := hid (fun W (l : New w W) => mValid_any m p W (h.new l))
  have HJM := hid (fun W (l : New w W) => mJoin_any m m p p W (h.new l) (h.new l) hp hp)
  obtain ⟨X, hX⟩ : ∃ X, X = joinP m n := ⟨_, rfl⟩
  rw [← hX] at HJ HR
  obtain ⟨T, hT⟩ : ∃ T, T = onceL m.tr := ⟨_, rfl⟩
  obtain ⟨S, hS⟩ : ∃ S, S = onceL m.ws := ⟨_, rfl⟩
  obtain ⟨P, hP⟩ : ∃ P, P = onceL m.pe := ⟨_, rfl⟩
  have HSJ := hid (show validMg m = true → joinP m m = .ok ⟨m.old, m.new, m.name, T, P, S, m.on, false, false⟩ from fun v => by rw [join_self (validMg_iff.1 v), hT, hS, hP])
  have HSA := hid (show validMg m = true → joinP ⟨m.old, m.new, m.name, T, P, S, m.on, false, false⟩ ⟨m.old, m.new, m.name, T, P, S, m.on, false, false⟩ = .ok ⟨m.old, m.new, m.name, T, P, S, m.on, false, false⟩ from fun v => by rw [hT, hS, hP]; exact join_again (validMg_iff.1 v))
  obtain ⟨V, hV⟩ : ∃ V, V = validMg m := ⟨_, rfl⟩
  rw [← hV] at HVM HSJ HSA
  have HQ := hid (fun (e : Ending) (w' : World) (h : joinQ X e w') => joinQ_any h)
  obtain ⟨R, hR⟩ : ∃ R, R = resM X := ⟨_, rfl⟩
  obtain ⟨c, hc⟩ : ∃ c, c = errX X := ⟨_, rfl⟩
  rw [← hR, ← hc] at HQ
  have HSM := hid (fun W p q (h : MagAt W R p) (k : MagAt W R q) => rsame_any R R p q W h k)
  rw [sameMg_own] at HSM
  have hcc : (c == c) = true := beq_self_eq_true c
  have hcn : (c != c) = false := by rw [bne, hcc]; rfl
  have s0 : (m.old.toList != m.old.toList) = false := (neS rfl).2
  have s1 : (m.new.toList != m.new.toList) = false := (neS rfl).2
  have s2 : (m.name.toList != m.name.toList) = false := (neS rfl).2
  obtain ⟨ta, tc, pa, pc, sa, sc, oa, oc⟩ := p
  obtain ⟨tb, td, pb, pd, sb, sd, ob, od⟩ := q
  simp only [magVal, magRow] at HLM HLN HJ HR HVM HJM HSM HQ ⊢
  clear h k hp hq hv hX hT hS hP hV hR hc
  go_enter Tryz.func4, Tryz.ntmps4
  go_wp2_with fail
  refine name_worldA (p := fun W => Calls _ _ _ W _) (fun W1 hW => ?_)
  have A1x : Blk W1 w.heap.size #[.string m.old, .string m.new, .string m.name, .slice ta m.tr.length tc, .slice pa m.pe.length pc, .slice sa m.ws.length sc, .slice oa m.on.length oc] 27 := by
    rw [hW]
    apply Blk.row
    · repeat (first | with_reducible exact hW | (with_reducible apply Blk.newAt; (simp; done)) | with_reducible apply Blk.alloc | with_reducible apply Blk.drew | with_reducible apply Blk.drewN | with_reducible apply Blk.set | (with_reducible apply Blk.other; · first | (simp; done) | (simp; omega) | omega) | (with_reducible apply Blk.putObj; · first | (simp; done) | (simp; omega) | omega))
    · rfl
  have B1x : Blk W1 (w.heap.size + 1) #[.string n.old, .string n.new, .string n.name, .slice tb n.tr.length td, .slice pb n.pe.length pd, .slice sb n.ws.length sd, .slice ob n.on.length od] 27 := by
    rw [hW]
    apply Blk.row
    · repeat (first | with_reducible exact hW | (with_reducible apply Blk.newAt; (simp; done)) | with_reducible apply Blk.alloc | with_reducible apply Blk.drew | with_reducible apply Blk.drewN | with_reducible apply Blk.set | (with_reducible apply Blk.other; · first | (simp; done) | (simp; omega) | omega) | (with_reducible apply Blk.putObj; · first | (simp; done) | (simp; omega) | omega))
    · rfl
  have N1x : New w W1 := by
    rw [hW]
    repeat (first | with_reducible exact Mod.refl _ w | with_reducible refine Mod.alloc ?_ _ | with_reducible refine Mod.drew ?_ | with_reducible refine Mod.drewN ?_ _ | (with_reducible refine Mod.set ?_ _ _ (by first | exact .inl rfl | (right; omega) | (right; simp; done) | (right; simp; omega) | (left; omega) | (left; simp; done) | (left; simp; omega))) | (with_reducible refine Mod.putObj ?_ _ _ (by first | exact .inl rfl | (right; omega) | (right; simp; done) | (right; simp; omega) | (left; omega) | (left; simp; done) | (left; simp; omega))))
  have A1 := hid A1x; have B1 := hid B1x; have N1 := hid N1x
  clear hW A1x B1x N1x
  refine (HLM.out _ N1.out).mono ?_
  rintro e w2 ⟨⟨b1, rfl⟩, n2⟩
  have A2 := hid (New.blk n2 A1.out); have B2 := hid (New.blk n2 B1.out); have N2 := hid (N1.out.trans n2)
  clear n2 A1 B1 N1
  cases b1 with
  | false =>
    go_wp2_with fail
    refine (HA.out _ N2.out).mono ?_
    rintro e w3 ⟨rfl, n3⟩
    have N3 := hid (N2.out.trans n3)
    clear n3
    go_wp2
    go_ret
    exact ⟨rfl, N3.out⟩
  | true =>
    have d0 := B2.out.cellv 0 rfl; have d1 := B2.out.cellv 1 rfl; have d2 := B2.out.cellv 2 rfl; have d3 := B2.out.cellv 3 rfl; have d4 := B2.out.cellv 4 rfl; have d5 := B2.out.cellv 5 rfl; have d6 := B2.out.cellv 6 rfl; have dl := B2.out.lt
    go_wp2_with fail
    refine (HLN.out _ N2.out).mono ?_
    rintro e w3 ⟨⟨b2, rfl⟩, n3⟩
    have A3 := hid (New.blk n3 A2.out); have B3 := hid (New.blk n3 B2.out); have N3 := hid (N2.out.trans n3)
    clear n3 A2 B2 N2
    clear d0 d1 d2 d3 d4 d5 d6 dl
    cases b2 with
    | false =>
      go_wp2_with fail
      refine (HA.out _ N3.out).mono ?_
      rintro e w4 ⟨rfl, n4⟩
      have N4 := hid (N3.out.trans n4)
      clear n4
      go_wp2
      go_ret
      exact ⟨rfl, N4.out⟩
    | true =>
      have c0 := A3.out.cellv 0 rfl; have c1 := A3.out.cellv 1 rfl; have c2 := A3.out.cellv 2 rfl; have c3 := A3.out.cellv 3 rfl; have c4 := A3.out.cellv 4 rfl; have c5 := A3.out.cellv 5 rfl; have c6 := A3.out.cellv 6 rfl; have cl := A3.out.lt
      have d0 := B3.out.cellv 0 rfl; have d1 := B3.out.cellv 1 rfl; have d2 := B3.out.cellv 2 rfl; have d3 := B3.out.cellv 3 rfl; have d4 := B3.out.cellv 4 rfl; have d5 := B3.out.cellv 5 rfl; have d6 := B3.out.cellv 6 rfl; have dl := B3.out.lt
      go_wp2_with fail
      refine (HJ.out _ N3.out).mono ?_
      rintro e w4 ⟨hq4, n4⟩
      obtain ⟨⟨ua, uc, va, vc, xa, xc, ya, yc⟩, rfl, ha4⟩ := HQ.out _ _ hq4
      have A4 := hid (New.blk n4 A3.out); have B4 := hid (New.blk n4 B3.out); have N4 := hid (N3.out.trans n4); have M4 := hid ha4
      clear n4 hq4 ha4 A3 B3 N3
      clear c0 c1 c2 c3 c4 c5 c6 cl
      clear d0 d1 d2 d3 d4 d5 d6 dl
      have c0 := A4.out.cellv 0 rfl; have c1 := A4.out.cellv 1 rfl; have c2 := A4.out.cellv 2 rfl; have c3 := A4.out.cellv 3 rfl; have c4 := A4.out.cellv 4 rfl; have c5 := A4.out.cellv 5 rfl; have c6 := A4.out.cellv 6 rfl; have cl := A4.out.lt
      have d0 := B4.out.cellv 0 rfl; have d1 := B4.out.cellv 1 rfl; have d2 := B4.out.cellv 2 rfl; have d3 := B4.out.cellv 3 rfl; have d4 := B4.out.cellv 4 rfl; have d5 := B4.out.cellv 5 rfl; have d6 := B4.out.cellv 6 rfl; have dl := B4.out.lt
      go_wp2_with fail
      refine name_worldA (p := fun W => Calls _ _ _ W _) (fun W5 hW => ?_)
      have B1x : Blk W5 w4.heap.size #[.string R.old, .string R.new, .string R.name, .slice ua R.tr.length uc, .slice va R.pe.length vc, .slice xa R.ws.length xc, .slice ya R.on.length yc] 27 := by
        rw [hW]
        apply Blk.row
        · repeat (first | with_reducible exact hW | (with_reducible apply Blk.newAt; (simp; done)) | with_reducible apply Blk.alloc | with_reducible apply Blk.drew | with_reducible apply Blk.drewN | with_reducible apply Blk.set | (with_reducible apply Blk.other; · first | (simp; done) | (simp; omega) | omega) | (with_reducible apply Blk.putObj; · first | (simp; done) | (simp; omega) | omega))
        · rfl
      have N1x : New w4 W5 := by
        rw [hW]
        repeat (first | with_reducible exact Mod.refl _ w4 | with_reducible refine Mod.alloc ?_ _ | with_reducible refine Mod.drew ?_ | with_reducible refine Mod.drewN ?_ _ | (with_reducible refine Mod.set ?_ _ _ (by first | exact .inl rfl | (right; omega) | (right; simp; done) | (right; simp; omega) | (left; omega) | (left; simp; done) | (left; simp; omega))) | (with_reducible refine Mod.putObj ?_ _ _ (by first | exact .inl rfl | (right; omega) | (right; simp; done) | (right; simp; omega) | (left; omega) | (left; simp; done) | (left; simp; omega))))
      have R5 := hid B1x; have L5 := hid N1x
      clear hW B1x N1x
      clear c0 c1 c2 c3 c4 c5 c6 cl
      clear d0 d1 d2 d3 d4 d5 d6 dl
      refine (HR.out _ (N4.out.trans L5.out)).mono ?_
      rintro e w6 ⟨hq6, n6⟩
      obtain ⟨⟨fa, fc, ga, gc, ia, ic, ja, jc⟩, rfl, ha6⟩ := HQ.out _ _ hq6
      have N46 := hid (L5.out.trans n6)
      have A6 := hid (New.blk N46.out A4.out); have B6 := hid (New.blk N46.out B4.out); have N6 := hid (N4.out.trans N46.out); have M6 := hid (M4.out.new N46.out); have K6 := hid ha6; have R6 := hid (New.blk n6 R5.out)
      clear n6 hq6 ha6 A4 B4 N4 M4 R5 L5
      have c0 := R6.out.cellv 0 rfl; have c1 := R6.out.cellv 1 rfl; have c2 := R6.out.cellv 2 rfl; have c3 := R6.out.cellv 3 rfl; have c4 := R6.out.cellv 4 rfl; have c5 := R6.out.cellv 5 rfl; have c6 := R6.out.cellv 6 rfl; have cl := R6.out.lt
      go_wp2_with fail
      refine name_worldA (p := fun W => Calls _ _ _ W _) (fun W7 hW => ?_)
      have B1x : Blk W7 w6.heap.size #[.string R.old, .string R.new, .string R.name, .slice fa R.tr.length fc, .slice ga R.pe.length gc, .slice ia R.ws.length ic, .slice ja R.on.length jc] 27 := by
        rw [hW]
        apply Blk.row
        · repeat (first | with_reducible exact hW | (with_reducible apply Blk.newAt; (simp; done)) | with_reducible apply Blk.alloc | with_reducible apply Blk.drew | with_reducible apply Blk.drewN | with_reducible apply Blk.set | (with_reducible apply Blk.other; · first | (simp; done) | (simp; omega) | omega) | (with_reducible apply Blk.putObj; · first | (simp; done) | (simp; omega) | omega))
        · rfl
      have N1x : New w6 W7 := by
        rw [hW]
        repeat (first | with_reducible exact Mod.refl _ w6 | with_reducible refine Mod.alloc ?_ _ | with_reducible refine Mod.drew ?_ | with_reducible refine Mod.drewN ?_ _ | (with_reducible refine Mod.set ?_ _ _ (by first | exact .inl rfl | (right; omega) | (right; simp; done) | (right; simp; omega) | (left; omega) | (left; simp; done) | (left; simp; omega))) | (with_reducible refine Mod.putObj ?_ _ _ (by first | exact .inl rfl | (right; omega) | (right; simp; done) | (right; simp; omega) | (left; omega) | (left; simp; done) | (left; simp; omega))))
      have S7 := hid B1x; have L7 := hid N1x
      clear hW B1x N1x
      clear c0 c1 c2 c3 c4 c5 c6 cl
      refine (HSM.out W7 ⟨ua, uc, va, vc, xa, xc, ya, yc⟩ ⟨fa, fc, ga, gc, ia, ic, ja, jc⟩ (M6.out.new L7.out) (K6.out.new L7.out)).mono ?_
      rintro e w8 ⟨rfl, n8⟩
      have N78 := hid (L7.out.trans n8)
      have A8 := hid (New.blk N78.out A6.out); have N8 := hid (N6.out.trans N78.out)
      clear n8 A6 B6 N6 M6 K6 R6 S7 L7
      have c0 := A8.out.cellv 0 rfl; have c1 := A8.out.cellv 1 rfl; have c2 := A8.out.cellv 2 rfl; have c3 := A8.out.cellv 3 rfl; have c4 := A8.out.cellv 4 rfl; have c5 := A8.out.cellv 5 rfl; have c6 := A8.out.cellv 6 rfl; have cl := A8.out.lt
      go_wp2_with fail
      refine (HVM.out _ N8.out).mono ?_
      rintro e w9 ⟨rfl, n9⟩
      have A9 := hid (New.blk n9 A8.out); have N9 := hid (N8.out.trans n9)
      clear n9 A8 N8 N78 N46
      clear c0 c1 c2 c3 c4 c5 c6 cl
      cases V with
      | false =>
        go_wp2_with fail
        refine (HA.out _ N9.out).mono ?_
        rintro e w10 ⟨rfl, n10⟩
        have N10 := hid (N9.out.trans n10)
        clear n10
        go_wp2
        go_ret
        exact ⟨rfl, N10.out⟩
      | true =>
        have HSJ' := HSJ.out rfl
        have HSA' := HSA.out rfl
        rw [HSJ'] at HJM
        have HS := hid HSA'
        clear HSJ HSA HSJ' HSA' HJ HR HVM HQ HSM HLM HLN
        have c0 := A9.out.cellv 0 rfl; have c1 := A9.out.cellv 1 rfl; have c2 := A9.out.cellv 2 rfl; have c3 := A9.out.cellv 3 rfl; have c4 := A9.out.cellv 4 rfl; have c5 := A9.out.cellv 5 rfl; have c6 := A9.out.cellv 6 rfl; have cl := A9.out.lt
        go_wp2_with fail
        refine (HJM.out _ N9.out).mono ?_
        rintro e w10 ⟨hq, n10⟩
        obtain ⟨⟨ua, uc, va, vc, xa, xc, ya, yc⟩, rfl, ha, ht⟩ := joinQ_yes hq
        have A10 := hid (New.blk n10 A9.out); have N10 := hid (N9.out.trans n10); have M10 := hid ha; have T10 := hid ht
        clear hq n10 ha ht A9 N9
        clear c0 c1 c2 c3 c4 c5 c6 cl
        simp only [magVal, magRow]
        go_wp2_with fail
        refine name_worldA (p := fun W => Calls _ _ _ W _) (fun W11 hW => ?_)
        have B1x : Blk W11 w10.heap.size #[.string m.old, .string m.new, .string m.name, .slice ua T.length uc, .slice va P.length vc, .slice xa S.length xc, .slice ya m.on.length yc] 27 := by
          rw [hW]
          apply Blk.row
          · repeat (first | with_reducible exact hW | (with_reducible apply Blk.newAt; (simp; done)) | with_reducible apply Blk.alloc | with_reducible apply Blk.drew | with_reducible apply Blk.drewN | with_reducible apply Blk.set | (with_reducible apply Blk.other; · first | (simp; done) | (simp; omega) | omega) | (with_reducible apply Blk.putObj; · first | (simp; done) | (simp; omega) | omega))
          · rfl
        have N1x : New w10 W11 := by
          rw [hW]
          repeat (first | with_reducible exact Mod.refl _ w10 | with_reducible refine Mod.alloc ?_ _ | with_reducible refine Mod.drew ?_ | with_reducible refine Mod.drewN ?_ _ | (with_reducible refine Mod.set ?_ _ _ (by first | exact .inl rfl | (right; omega) | (right; simp; done) | (right; simp; omega) | (left; omega) | (left; simp; done) | (left; simp; omega))) | (with_reducible refine Mod.putObj ?_ _ _ (by first | exact .inl rfl | (right; omega) | (right; simp; done) | (right; simp; omega) | (left; omega) | (left; simp; done) | (left; simp; omega))))
        have R11 := hid B1x; have L11 := hid N1x
        clear hW B1x N1x
        have M11 := hid (M10.out.new L11.out)
        have HJX := hid (mJoin_any _ _ _ _ W11 M11.out M11.out T10.out T10.out)
        rw [HS.out] at HJX
        simp only [magVal, magRow] at HJX
        refine HJX.out.mono ?_
        rintro e w12 ⟨hq, n12⟩
        obtain ⟨⟨fa, fc, ga, gc, ia, ic, ja, jc⟩, rfl, ha, ht⟩ := joinQ_yes hq
        have A12 := hid (New.blk n12 (New.blk L11.out A10.out)); have N12 := hid ((N10.out.trans L11.out).trans n12); have M12 := hid (M11.out.new n12); have K12 := hid ha; have R12 := hid (New.blk n12 R11.out)
        clear hq n12 ha ht A10 N10 M10 T10 R11 L11 M11 HJX
        simp only [magVal, magRow]
        have c0 := R12.out.cellv 0 rfl; have c1 := R12.out.cellv 1 rfl; have c2 := R12.out.cellv 2 rfl; have c3 := R12.out.cellv 3 rfl; have c4 := R12.out.cellv 4 rfl; have c5 := R12.out.cellv 5 rfl; have c6 := R12.out.cellv 6 rfl; have cl := R12.out.lt
        go_wp2_with fail
        refine name_worldA (p := fun W => Calls _ _ _ W _) (fun W13 hW => ?_)
        have B1x : Blk W13 w12.heap.size #[.string m.old, .string m.new, .string m.name, .slice fa T.length fc, .slice ga P.length gc, .slice ia S.length ic, .slice ja m.on.length jc] 27 := by
          rw [hW]
          apply Blk.row
          · repeat (first | with_reducible exact hW | (with_reducible apply Blk.newAt; (simp; done)) | with_reducible apply Blk.alloc | with_reducible apply Blk.drew | with_reducible apply Blk.drewN | with_reducible apply Blk.set | (with_reducible apply Blk.other; · first | (simp; done) | (simp; omega) | omega) | (with_reducible apply Blk.putObj; · first | (simp; done) | (simp; omega) | omega))
          · rfl
        have N1x : New w12 W13 := by
          rw [hW]
          repeat (first | with_reducible exact Mod.refl _ w12 | with_reducible refine Mod.alloc ?_ _ | with_reducible refine Mod.drew ?_ | with_reducible refine Mod.drewN ?_ _ | (with_reducible refine Mod.set ?_ _ _ (by first | exact .inl rfl | (right; omega) | (right; simp; done) | (right; simp; omega) | (left; omega) | (left; simp; done) | (left; simp; omega))) | (with_reducible refine Mod.putObj ?_ _ _ (by first | exact .inl rfl | (right; omega) | (right; simp; done) | (right; simp; omega) | (left; omega) | (left; simp; done) | (left; simp; omega))))
        have S13 := hid B1x; have L13 := hid N1x
        clear hW B1x N1x
        clear c0 c1 c2 c3 c4 c5 c6 cl
        have HSX := hid (rsame_any _ _ _ _ W13 (M12.out.new L13.out) (K12.out.new L13.out))
        rw [sameMg_own] at HSX
        simp only [magVal, magRow] at HSX
        refine HSX.out.mono ?_
        rintro e w14 ⟨rfl, n14⟩
        have A14 := hid (New.blk (L13.out.trans n14) A12.out); have R14 := hid (New.blk (L13.out.trans n14) R12.out); have N14 := hid ((N12.out.trans L13.out).trans n14)
        clear n14 A12 R12 N12 M12 K12 S13 L13 HSX HJM HS
        have c0 := A14.out.cellv 0 rfl; have c1 := A14.out.cellv 1 rfl; have c2 := A14.out.cellv 2 rfl; have c3 := A14.out.cellv 3 rfl; have c4 := A14.out.cellv 4 rfl; have c5 := A14.out.cellv 5 rfl; have c6 := A14.out.cellv 6 rfl; have cl := A14.out.lt
        have d0 := R14.out.cellv 0 rfl; have d1 := R14.out.cellv 1 rfl; have d2 := R14.out.cellv 2 rfl; have d3 := R14.out.cellv 3 rfl; have d4 := R14.out.cellv 4 rfl; have d5 := R14.out.cellv 5 rfl; have d6 := R14.out.cellv 6 rfl; have dl := R14.out.lt
        go_wp2_with fail
        refine (HA.out _ N14.out).mono ?_
        rintro e w15 ⟨rfl, n15⟩
        have N15 := hid (N14.out.trans n15)
        clear n15
        go_wp2
        go_ret
        exact ⟨rfl, N15.out⟩
end Go.Proofs.YtbgmkplpolgebaaGreatDoor

namespace Go.Proofs.YtbgmkplpolgebaaGreatDoor
set_option linter.unusedSimpArgs false
set_option linter.unusedVariables false
open Go.ChangeShapes Go.WideShapes Go.ChangeAt Go.RowKit

section
variable {H : Type} {enc : TypeId × Value → H}
theorem returnsInHanded_full {a : Assume} {C : Checked} {os : Os} {f : FuncId} {fn : Func} {s : ChangeSpec} {conds : List PathCond} {apart fresh handsOn again : Bool} {X : World → Array Value → Prop}
    (hX : ∀ (w w' : World) (args : Array Value), w.heap = w'.heap → X w args → X w' args)
    (own : ownKnob C.prog.godebug = none) (started : os.Started) (noInit : C.prog.inits.idxOf? f = none) (hfn : C.prog.funcs[f]? = some fn)
    (witness : ∃ (w : World) (tape : Tape) (i : Input), w.os = os ∧ (w.forCall tape i).Shaped C.prog ∧ i.vars = [] ∧ Input.okWide C.prog (w.forCall tape i) .any w.heap.size f i ∧
      ((s.pre enc C.prog fn conds apart (w.forCall tape i).memory i.args ∧ X (w.forCall tape i).memory i.args) ∧ sizedMet enc C.prog fn (OpenSpec.ofChange s) apart (w.forCall tape i).memory i.args) ∧ a.holds C.prog (lone (Frame.enter C.prog f i.args .normal) [] (w.forCall tape i)))
    (contract : ∀ (W : World) (base : Nat) (args : Array Value) (ds gs : List (DataW H)) (before : List MemPlace),
      (∀ (j : Nat) t v, fn.params[j]? = some t → args[j]? = some v → Value.okWide C.prog W .any base t v) →
      DataW.Whole enc C.prog fn.params.toList s.vars apart W args.toList ds gs before →
      conds.all (PathCond.test C.prog ⟨fn.params.toList, ds, s.plain.varTypes C.prog, gs⟩) = true →
      (DataW.weightsEach C.prog (fn.params.toList ++ s.plain.varTypes C.prog) (ds ++ gs)).all (· ≤ reachBytes) = true → X W args → W.ShapedOpen C.prog →
      a.holds C.prog (lone (Frame.enter C.prog f args .normal) [] W) →
      Calls C.prog f args W fun e W' => ∃ v, e = .returned v ∧ s.post enc C.prog fn apart fresh handsOn again W args v W') :
    ReturnsInHanded a C os f .any (fun w args => (s.pre enc C.prog fn conds apart w args ∧ X w args) ∧ sizedMet enc C.prog fn (OpenSpec.ofChange s) apart w args) (s.post enc C.prog fn apart fresh handsOn again) := by
  refine returnsInHanded_of_calls own started noInit witness ?_
  intro w tape i _ hsh _ hok hpre hholds
  obtain ⟨_, _, _, fn', hfn', _, _, _, _, hval⟩ := hok
  have e : fn' = fn := Option.some.inj (hfn'.symm.trans hfn)
  subst e
  obtain ⟨⟨⟨ds, gs, before, hw, hc⟩, hx⟩, hz⟩ := hpre
  have hw' := DataW.Whole.of_heap (w' := w.forCall tape i) (by rfl) hw
  refine (contract (w.forCall tape i) w.heap.size i.args ds gs before hval hw' hc (hz.weights hw) (hX _ _ _ (by rfl) hx) hsh hholds).mono fun e W' ⟨v, he, hp⟩ => ?_
  subst he
  exact ChangeSpec.post_blind hp
end
theorem ownT : ownKnob Tryz.prog.godebug = none := by kernel_rfl
theorem laidOutT : laidOutB Tryz.prog = true := by kernel_rfl
end Go.Proofs.YtbgmkplpolgebaaGreatDoor

namespace Go.Proofs.YtbgmkplpolgebaaGreatDoor
set_option linter.unusedSimpArgs false
set_option linter.unusedVariables false
open Go.Joins Go.ChangeShapes Go.WideShapes Go.RowKit Go.Deep

section
variable {H : Type} {enc : TypeId × Value → H} {P : Program} {w : World} {base : Nat} {spare : Nat → Bool} {held : Bool}
theorem open_aggN {r : Reach} {b0 : Nat} {t : TypeId} {fs : Array Field} {v : Value} {d : DataW H} {p : List MemPlace} (hs : P.underlying t = some (.struct fs)) (hone : oneCellFields P fs = true) (hC : P.cellsOf t = fs.size)
    (hv : Value.okWide P w r b0 t v) (h : DataW.Trod enc P w base spare held t v d p) :
    ∃ (cs : Array Value) (xs : List (DataW H × List MemPlace)) (n : Nat), v = .agg cs ∧ cs.size = fs.size ∧ d = .agg (xs.map (·.1)) ∧
      ∀ (j : Nat) (f : Field), fs[j]? = some f → ∃ (x : Value) (y : DataW H × List MemPlace), cs[j]? = some x ∧ xs[j]? = some y ∧ DataW.trod enc P w base spare held n f.type [x] = some y := by
  obtain ⟨cs, rfl, hsz⟩ := okWide_struct hs hv
  obtain ⟨fuel, hf⟩ := h
  obtain ⟨xs, n, _, hx, _, hlen, hg⟩ := DataW.trod_struct hs hf
  simp only [Prod.mk.injEq] at hx
  refine ⟨cs, xs, n, rfl, hsz.trans hC, hx.1, fun j f hj => ?_⟩
  obtain ⟨ho, hk⟩ := hone_of hone j f hj
  have hjl : j < fs.size := (Array.getElem?_eq_some_iff.1 hj).1
  have hjc : j < cs.size := by rw [hsz.trans hC]; exact hjl
  have h1 := hg j f hj
  rw [ho, hk] at h1
  have hone' : ((Value.agg cs).cells.toList.drop j).take 1 = [cs[j]] := by
    show (cs.toList.drop j).take 1 = _
    rw [List.drop_eq_getElem_cons (by simpa using hjc)]
    simp
  rw [hone'] at h1
  have hxl : j < xs.length := by rw [hlen]; exact hjl
  have hys : xs[j]? = some (xs[j]'hxl) := List.getElem?_eq_getElem hxl
  exact ⟨cs[j], xs[j]'hxl, by simp [hjc], hys, h1.trans hys⟩
end
end Go.Proofs.YtbgmkplpolgebaaGreatDoor
