/-
  Several texts in one, in their build order. The walk of Valid (package magnet) on a magnet that is right. Conditions: the magnet lies as told, and is right. The walk of awake. Condition: the library's variable is as laid. The walk of the law MagnetParses. Condition: the library's variables are as laid. The walk of Light (magnets): it answers, whatever it is. Condition: the magnet lies as told.
-/
import Derived.Test.YtbgmkplpolgebaaGreatDoorM30
import Derived.Test.YtbgmkplpolgebaaGreatDoorM22
import Derived.Test.YtbgmkplpolgebaaGreatDoorM18
import Derived.Test.YtbgmkplpolgebaaGreatDoorM16
import Derived.Test.YtbgmkplpolgebaaGreatDoorM28
import Derived.OrdersHeld
import Derived.Test.YtbgmkplpolgebaaGreatDoorM49
import Derived.Test.YtbgmkplpolgebaaGreatDoorM31
import Derived.Test.YtbgmkplpolgebaaGreatDoorM29
import Derived.Test.YtbgmkplpolgebaaGreatDoorM2
namespace Go.Proofs.YtbgmkplpolgebaaGreatDoor
set_option linter.unusedSimpArgs false
set_option linter.unusedVariables false
open Go.RowKit Go.Shelf

end Go.Proofs.YtbgmkplpolgebaaGreatDoor

namespace Go.Proofs.YtbgmkplpolgebaaGreatDoor
set_option linter.unusedSimpArgs false
set_option linter.unusedVariables false
open Go.RowKit Go.Shelf

theorem made_oneM (v : Value) (n : Nat) (hv : v.cells = #[v]) : madeCells v.cells n = Array.replicate n v := by
  apply Array.ext
  · simp [madeCells]
  · intro i h1 h2
    simp [madeCells, hv, Nat.mod_one]
theorem make_bytesM (n : Nat) (h : n ≤ 65536) (w : World) : (Instr.makeSlice 42 (.int .i64 n) (.int .i64 n)).run Tryz.prog w = .ok (.slice (some ⟨w.heap.size, 0, none⟩) n n) (w.alloc (.cells (Array.replicate n (.int .u8 0)) 5)) := by
  obtain ⟨i0, hi, hz0, hz1, hz2⟩ := info_parts info_byte
  have hr := run_makeSlice (P := Tryz.prog) w 42 5 i0 _ Tryz.underlying42 hi hz0 .i64 .i64 n n (by omega) (by omega) (by rw [hz1]; omega) (by rw [hz2]; omega) (by omega)
  rw [hr, hz1, Nat.mul_one, made_oneM _ _ rfl]
  simp
theorem zeros_text (W : World) (g : Nat) (h : W.heap.size = g) : (convert 42 9 (.slice (some ⟨g, 0, none⟩) 20 20)).run Tryz.prog (W.alloc (.cells (Array.replicate 20 (.int .u8 0)) 5)).drew = .ok (.string kZ) (W.alloc (.cells (Array.replicate 20 (.int .u8 0)) 5)).drew := by
  subst h
  have b : ByAt (W.alloc (.cells (Array.replicate 20 (.int .u8 0)) 5)) W.heap.size kZ.data.toList := by
    refine ByAt.of_blk (Blk.new W _ _) (by decide +kernel) (fun i hi => ?_)
    have hi' : i < 20 := hi
    have e : ∀ i (hi : i < kZ.data.toList.length), kZ.data.toList[i] = 0 := by decide +kernel
    rw [e i hi]
    simp [Array.getElem?_replicate, hi']
  exact (b.new (Mod.refl _ _).drew).text 20 20 (by decide +kernel)
set_option maxRecDepth 100000 in
set_option maxHeartbeats 4000000 in
theorem awake09_any (w : World) (hv : VarM w) : Calls Tryz.prog 7 #[] w fun e w' => e = .returned (.bool true) ∧ New w w' := by
  have HPA := hid (parse_awake w hv)
  unfold magA at HPA
  have hmk : ∀ w, (Instr.makeSlice 42 (.int .i64 20) (.int .i64 20)).run Tryz.prog w = .ok (.slice (some ⟨w.heap.size, 0, none⟩) 20 20) (w.alloc (.cells (Array.replicate 20 (.int .u8 0)) 5)) := make_bytesM 20 (by omega)
  have hzt := zeros_text
  have hNe : (kN.toList == [97, 32, 98]) = true := by decide +kernel
  go_enter Tryz.func7, Tryz.ntmps7
  go_wp2_with fail
  refine HPA.out.mono ?_
  rintro e w1 ⟨rfl, n1⟩
  have N1 := hid n1
  clear n1
  go_wp2
  have B0 := (Blk.new w1 #[.string kZ, .string ⟨#[]⟩, .string kN, .slice none 0 0, .slice none 0 0, .slice none 0 0, .slice none 0 0] 27).drew
  have HAL : Hid (∀ W : World, W.cell? ⟨w1.heap.size, 0, none⟩ = some (.string kZ) ∧ W.cell? ⟨w1.heap.size, 2, none⟩ = some (.string kN) → (W.alloc (.cells (Array.replicate 20 (.int .u8 0)) 5)).cell? ⟨w1.heap.size, 0, none⟩ = some (.string kZ) ∧ (W.alloc (.cells (Array.replicate 20 (.int .u8 0)) 5)).cell? ⟨w1.heap.size, 2, none⟩ = some (.string kN)) := hid (fun W ⟨h1, h2⟩ => ⟨New.cellv ((Mod.refl _ W).alloc _) h1, New.cellv ((Mod.refl _ W).alloc _) h2⟩)
  refine wp_region_held_drew (S := (fun w' => w'.cell? ⟨w1.heap.size, 0, none⟩ = some (.string kZ) ∧ w'.cell? ⟨w1.heap.size, 2, none⟩ = some (.string kN))) (by kernel_rfl) ⟨B0.cellv 0 rfl, B0.cellv 2 rfl⟩ (fun hHeld => ?_)
  clear B0
  refine tk (v := ?_) 0 ?_ ?_
  rotate_left
  · intro w hSw
    (try dsimp only at hSw)
    first | (go_simp; done) | (go_simp; with_reducible rfl) | with_reducible rfl
  simp only [Act.put, List.setIfInBounds_toArray, List.set_cons_zero, List.set_cons_succ]
  refine tk (v := ?_) 1 ?_ ?_
  rotate_left
  · intro w hSw
    (try dsimp only at hSw)
    first | (go_simp; done) | (go_simp; with_reducible rfl) | with_reducible rfl
  simp only [Act.put, List.setIfInBounds_toArray, List.set_cons_zero, List.set_cons_succ]
  refine tk (v := ?_) 2 ?_ ?_
  rotate_left
  · intro w hSw
    (try dsimp only at hSw)
    first | (go_simp; done) | (go_simp; with_reducible rfl) | with_reducible rfl
  simp only [Act.put, List.setIfInBounds_toArray, List.set_cons_zero, List.set_cons_succ]
  refine tk (v := ?_) 3 ?_ ?_
  rotate_left
  · intro w hSw
    (try dsimp only at hSw)
    first | (go_simp; done) | (go_simp; with_reducible rfl) | with_reducible rfl
  simp only [Act.put, List.setIfInBounds_toArray, List.set_cons_zero, List.set_cons_succ]
  refine tk (v := ?_) 4 ?_ ?_
  rotate_left
  · intro w hSw
    (try dsimp only at hSw)
    first | (go_simp; done) | (go_simp; with_reducible rfl) | with_reducible rfl
  simp only [Act.put, List.setIfInBounds_toArray, List.set_cons_zero, List.set_cons_succ]
  refine wpAnyH_ready (rs := [5]) (by kernel_rfl) (by simp) ?_
  refine AllReadyH.cons (by simp only [List.getElem?_toArray, List.getElem?_cons_succ, List.getElem?_cons_zero]; rfl) (fun K hK => ?_) AllReadyH.nil
  go_simp
  refine hK.out _ _ (by exact HAL.out _ hHeld) (fun hHeld5 => ?_)
  clear hK K
  try simp only [Act.put, List.setIfInBounds_toArray, List.set_cons_zero, List.set_cons_succ]
  clear hHeld
  have hHeld := hHeld5
  refine wpAnyH_ready (rs := [6]) (by kernel_rfl) (by simp) ?_
  refine AllReadyH.cons (by simp only [List.getElem?_toArray, List.getElem?_cons_succ, List.getElem?_cons_zero]; rfl) (fun K hK => ?_) AllReadyH.nil
  go_simp
  refine hK.out _ _ (by exact hHeld) (fun hHeld6 => ?_)
  clear hK K
  try simp only [Act.put, List.setIfInBounds_toArray, List.set_cons_zero, List.set_cons_succ]
  refine tk (v := ?_) 7 ?_ ?_
  rotate_left
  · intro w hSw
    (try dsimp only at hSw)
    first | (go_simp; done) | (go_simp; with_reducible rfl) | with_reducible rfl
  simp only [Act.put, List.setIfInBounds_toArray, List.set_cons_zero, List.set_cons_succ]
  refine tk (v := ?_) 8 ?_ ?_
  rotate_left
  · intro w hSw
    (try dsimp only at hSw)
    first | (go_simp; done) | (go_simp; with_reducible rfl) | with_reducible rfl
  simp only [Act.put, List.setIfInBounds_toArray, List.set_cons_zero, List.set_cons_succ]
  refine tk (v := ?_) 9 ?_ ?_
  rotate_left
  · intro w hSw
    (try dsimp only at hSw)
    first | (go_simp; done) | (go_simp; with_reducible rfl) | with_reducible rfl
  simp only [Act.put, List.setIfInBounds_toArray, List.set_cons_zero, List.set_cons_succ]
  refine tk (v := ?_) 10 ?_ ?_
  rotate_left
  · intro w hSw
    (try dsimp only at hSw)
    first | (go_simp; done) | (go_simp; with_reducible rfl) | with_reducible rfl
  simp only [Act.put, List.setIfInBounds_toArray, List.set_cons_zero, List.set_cons_succ]
  refine tk (v := ?_) 11 ?_ ?_
  rotate_left
  · intro w hSw
    (try dsimp only at hSw)
    first | (go_simp; done) | (go_simp; with_reducible rfl) | with_reducible rfl
  simp only [Act.put, List.setIfInBounds_toArray, List.set_cons_zero, List.set_cons_succ]
  refine tk (v := ?_) 12 ?_ ?_
  rotate_left
  · intro w hSw
    (try dsimp only at hSw)
    first | (go_simp; done) | (go_simp; with_reducible rfl) | with_reducible rfl
  simp only [Act.put, List.setIfInBounds_toArray, List.set_cons_zero, List.set_cons_succ]
  refine tk (v := ?_) 13 ?_ ?_
  rotate_left
  · intro w hSw
    (try dsimp only at hSw)
    first | (go_simp; done) | (go_simp; with_reducible rfl) | with_reducible rfl
  simp only [Act.put, List.setIfInBounds_toArray, List.set_cons_zero, List.set_cons_succ]
  refine tk (v := ?_) 14 ?_ ?_
  rotate_left
  · intro w hSw
    (try dsimp only at hSw)
    first | (go_simp; done) | (go_simp; with_reducible rfl) | with_reducible rfl
  simp only [Act.put, List.setIfInBounds_toArray, List.set_cons_zero, List.set_cons_succ]
  refine wpAnyH_done (by kernel_rfl) ?_ _
  go_wp2
  go_ret
  refine ⟨rfl, ?_⟩
  repeat (first | with_reducible exact N1.out | with_reducible refine Mod.alloc ?_ _ | with_reducible refine Mod.drew ?_ | with_reducible refine Mod.drewN ?_ _ | (with_reducible refine Mod.set ?_ _ _ (by first | exact .inl rfl | (right; omega) | (right; simp; done) | (right; simp; omega) | (left; omega) | (left; simp; done) | (left; simp; omega))) | (with_reducible refine Mod.putObj ?_ _ _ (by first | exact .inl rfl | (right; omega) | (right; simp; done) | (right; simp; omega) | (left; omega) | (left; simp; done) | (left; simp; omega))))
end Go.Proofs.YtbgmkplpolgebaaGreatDoor

namespace Go.Proofs.YtbgmkplpolgebaaGreatDoor
set_option linter.unusedSimpArgs false
set_option linter.unusedVariables false
open Go.RowKit Go.Shelf

theorem varPM {w : World} (h : VarP w) : VarM w := h.max
theorem magQ_yes {base : Nat} {m : MgV} {e : Ending} {w' : World} (h : magQ base (.ok m) e w') : ∃ v, e = .returned (.tuple #[v, .int .i64 0]) ∧ MagIs w' base v m := h
end Go.Proofs.YtbgmkplpolgebaaGreatDoor

namespace Go.Proofs.YtbgmkplpolgebaaGreatDoor
set_option linter.unusedSimpArgs false
set_option linter.unusedVariables false
open Go.RowKit Go.Shelf

def SomeB (w : World) (e : Ending) (w' : World) : Prop := (∃ b : Bool, e = .returned (.bool b)) ∧ New w w'
theorem someB {w w' : World} {b : Bool} {v : Value} (h : v = .bool b) (n : New w w') : SomeB w (.returned v) w' := ⟨⟨b, by rw [h]⟩, n⟩
set_option maxRecDepth 100000 in
set_option maxHeartbeats 8000000 in
theorem light09_any (m : MgV) (p : MgP) (w : World) (h : MagAt w m p) : Calls Tryz.prog 12 #[magVal m p] w (SomeB w) := by
  obtain ⟨ta, tc, pa, pc, sa, sc, oa, oc⟩ := p
  simp only [magVal, magRow]
  have BX : Hid (Blk (w.alloc (.cells #[.string m.old, .string m.new, .string m.name, .slice ta m.tr.length tc, .slice pa m.pe.length pc, .slice sa m.ws.length sc, .slice oa m.on.length oc] 27)) w.heap.size #[.string m.old, .string m.new, .string m.name, .slice ta m.tr.length tc, .slice pa m.pe.length pc, .slice sa m.ws.length sc, .slice oa m.on.length oc] 27) := hid (Blk.new w _ _)
  have NX : Hid (New w (w.alloc (.cells #[.string m.old, .string m.new, .string m.name, .slice ta m.tr.length tc, .slice pa m.pe.length pc, .slice sa m.ws.length sc, .slice oa m.on.length oc] 27))) := hid ((Mod.refl _ w).alloc _)
  have HTR := hid h.tr; have HWS := hid h.ws; have HPE := hid h.pe
  have r1 := h.pe.room; have r2 := h.pe.cap; have r3 := h.tr.room; have r4 := h.tr.cap; have r5 := h.ws.room; have r6 := h.ws.cap; have r7 := h.on.room; have r8 := h.on.cap
  dsimp only at r1 r2 r3 r4 r5 r6 r7 r8
  unfold maxLen at r2 r4 r6 r8
  clear h
  go_enter Tryz.func12, Tryz.ntmps12
  go_wp2_with fail
  go_loopw [24, 3] (fun i n wr => ∃ (k : Nat) (x : Int), i = .int .i64 k ∧ n = .int .i64 x ∧ k ≤ m.tr.length ∧ New w wr ∧ Blk wr w.heap.size #[.string m.old, .string m.new, .string m.name, .slice ta m.tr.length tc, .slice pa m.pe.length pc, .slice sa m.ws.length sc, .slice oa m.on.length oc] 27) (fun i _ _ => m.tr.length - (intOf i).toNat)
  case atStart => exact ⟨0, _, rfl, rfl, by omega, NX.out, BX.out⟩
  case round =>
    obtain ⟨k, x, rfl, rfl, hk, hn, hbl⟩ := hrel
    have HN := hid hn; have HB := hid hbl
    clear hn hbl
    by_cases hlt : k < m.tr.length
    · obtain ⟨b1, o1, hpe, hb1, hc1⟩ := (HTR.out.new HN.out).get (by omega)
      (try dsimp only at hpe)
      subst hpe
      have g0 := hc1 k hlt
      obtain ⟨s, hs⟩ : ∃ s, s = m.tr[k] := ⟨_, rfl⟩
      rw [← hs] at g0
      clear hs hc1
      go_wp2
      exact ⟨⟨k + 1, _, by simp, rfl, by omega, HN.out, HB.out⟩, by simp [intOf]; omega⟩
    · have c5 := HB.out.cellv 5 rfl
      obtain ⟨W3, hW3⟩ : ∃ W3, W3 = wr := ⟨_, rfl⟩
      subst hW3
      go_wp2_with fail
      clear c5
      go_loopw [36, 3] (fun i n wr => ∃ (k : Nat) (x : Int), i = .int .i64 k ∧ n = .int .i64 x ∧ k ≤ m.ws.length ∧ New w wr ∧ Blk wr w.heap.size #[.string m.old, .string m.new, .string m.name, .slice ta m.tr.length tc, .slice pa m.pe.length pc, .slice sa m.ws.length sc, .slice oa m.on.length oc] 27) (fun i _ _ => m.ws.length - (intOf i).toNat)
      case atStart => exact ⟨0, _, rfl, rfl, by omega, HN.out, HB.out⟩
      case round =>
        clear HN HB
        obtain ⟨k, x, rfl, rfl, hk, hn, hbl⟩ := hrel
        have HN := hid hn; have HB := hid hbl
        clear hn hbl
        by_cases hlt : k < m.ws.length
        · obtain ⟨b1, o1, hpe, hb1, hc1⟩ := (HWS.out.new HN.out).get (by omega)
          (try dsimp only at hpe)
          subst hpe
          have g0 := hc1 k hlt
          obtain ⟨s, hs⟩ : ∃ s, s = m.ws[k] := ⟨_, rfl⟩
          rw [← hs] at g0
          clear hs hc1
          go_wp2
          exact ⟨⟨k + 1, _, by simp, rfl, by omega, HN.out, HB.out⟩, by simp [intOf]; omega⟩
        · have c4 := HB.out.cellv 4 rfl
          obtain ⟨W4, hW4⟩ : ∃ W4, W4 = wr := ⟨_, rfl⟩
          subst hW4
          go_wp2_with fail
          clear c4
          go_loopw [48, 3] (fun i n wr => ∃ (k : Nat) (x : Int), i = .int .i64 k ∧ n = .int .i64 x ∧ k ≤ m.pe.length ∧ New w wr ∧ Blk wr w.heap.size #[.string m.old, .string m.new, .string m.name, .slice ta m.tr.length tc, .slice pa m.pe.length pc, .slice sa m.ws.length sc, .slice oa m.on.length oc] 27) (fun i _ _ => m.pe.length - (intOf i).toNat)
          case atStart => exact ⟨0, _, rfl, rfl, by omega, HN.out, HB.out⟩
          case round =>
            clear HN HB
            obtain ⟨k, x, rfl, rfl, hk, hn, hbl⟩ := hrel
            have HN := hid hn; have HB := hid hbl
            clear hn hbl
            by_cases hlt : k < m.pe.length
            · obtain ⟨b1, o1, hpe, hb1, hc1⟩ := (HPE.out.new HN.out).get (by omega)
              (try dsimp only at hpe)
              subst hpe
              obtain ⟨g0, g1, g2⟩ := hc1 k hlt
              obtain ⟨y, hy⟩ : ∃ y, y = m.pe[k] := ⟨_, rfl⟩
              rw [← hy] at g0 g1 g2
              clear hy hc1
              go_wp2
              refine ⟨⟨k + 1, _, by simp, rfl, by omega, ?_, ?_⟩, by simp [intOf]; omega⟩
              · have q := HN.out
                have q2 := HN.out.size
                repeat (first | with_reducible exact q | with_reducible refine Mod.alloc ?_ _ | with_reducible refine Mod.drew ?_ | with_reducible refine Mod.drewN ?_ _ | (with_reducible refine Mod.set ?_ _ _ (by first | exact .inl rfl | (right; omega) | (right; simp; done) | (right; simp; omega) | (left; omega) | (left; simp; done) | (left; simp; omega))) | (with_reducible refine Mod.putObj ?_ _ _ (by first | exact .inl rfl | (right; omega) | (right; simp; done) | (right; simp; omega) | (left; omega) | (left; simp; done) | (left; simp; omega))))
              · have q2 := HB.out.lt
                apply Blk.row
                · repeat (first | with_reducible exact HB.out | (with_reducible apply Blk.newAt; (simp; done)) | with_reducible apply Blk.alloc | with_reducible apply Blk.drew | with_reducible apply Blk.drewN | with_reducible apply Blk.set | (with_reducible apply Blk.other; · first | (simp; done) | (simp; omega) | omega) | (with_reducible apply Blk.putObj; · first | (simp; done) | (simp; omega) | omega))
                · rfl
            · have c3 := HB.out.cellv 3 rfl; have c4 := HB.out.cellv 4 rfl; have c5 := HB.out.cellv 5 rfl; have c6 := HB.out.cellv 6 rfl
              go_wp2
              all_goals go_ret
              all_goals exact someB rfl HN.out
end Go.Proofs.YtbgmkplpolgebaaGreatDoor
