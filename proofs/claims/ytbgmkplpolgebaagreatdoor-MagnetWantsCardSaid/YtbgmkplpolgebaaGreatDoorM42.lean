/-
  Several texts in one, in their build order. The walk of Light (magnets): it answers, whatever it is. Condition: the magnet lies as told. The walk of awake. Condition: the library's variable is as laid. A map that a call has made, with keys of one plain kind: its entries in the order in which they lie; look-up, store, delete, length, an entry turned in place. Over any program. No condition.
-/
import Derived.Test.YtbgmkplpolgebaaGreatDoorM29
import Derived.Test.YtbgmkplpolgebaaGreatDoorM2
import Derived.Test.YtbgmkplpolgebaaGreatDoorM28
import Derived.OrdersHeld
import Derived.Test.YtbgmkplpolgebaaGreatDoorM1
import Derived.Maps.OwnOps
import Derived.MapKept
import Derived.Carry
namespace Go.Proofs.YtbgmkplpolgebaaGreatDoor
set_option linter.unusedSimpArgs false
set_option linter.unusedVariables false
open Go.RowKit Go.Shelf

def SomeB (w : World) (e : Ending) (w' : World) : Prop := (∃ b : Bool, e = .returned (.bool b)) ∧ New w w'
theorem someB {w w' : World} {b : Bool} {v : Value} (h : v = .bool b) (n : New w w') : SomeB w (.returned v) w' := ⟨⟨b, by rw [h]⟩, n⟩
set_option maxRecDepth 100000 in
set_option maxHeartbeats 8000000 in
theorem light09_any (m : MgV) (p : MgP) (w : World) (h : MagAt w m p) : Calls Tryz.prog 12 #[magVal m p] w (SomeB w) := by
  obtain ⟨ta, tc, pa, pc, sa, sc, oa, oc⟩ := p
  simp only [magVal, magRow]
  have BX : Hid (Blk (w.alloc (.cells #[.string m.old, .string m.new, .string m.name, .slice ta m.tr.length tc, .slice pa m.pe.length pc, .slice sa m.ws.length sc, .slice oa m.on.length oc] 27)) w.heap.size #[.string m.old, .string m.new, .string m.name, .slice ta m.tr.length tc, .slice pa m.pe.length pc, .slice sa m.ws.length sc, .slice oa m.on.length oc] 27) := hid (Blk.new w _ _)
  have NX : Hid (New w (w.alloc (.cells #[.string m.old, .string m.new, .string m.name, .slice ta m.tr.length tc, .slice pa m.pe.length pc, .slice sa m.ws.length sc, .slice oa m.on.length oc] 27))) := hid ((Mod.refl _ w).alloc _)
  have HTR := hid h.tr; have HWS := hid h.ws; have HPE := hid h.pe
  have r1 := h.pe.room; have r2 := h.pe.cap; have r3 := h.tr.room; have r4 := h.tr.cap; have r5 := h.ws.room; have r6 := h.ws.cap; have r7 := h.on.room; have r8 := h.on.cap
  dsimp only at r1 r2 r3 r4 r5 r6 r7 r8
  unfold maxLen at r2 r4 r6 r8
  clear h
  go_enter Tryz.func12, Tryz.ntmps12
  go_wp2_with fail
  go_loopw [24, 3] (fun i n wr => ∃ (k : Nat) (x : Int), i = .int .i64 k ∧ n = .int .i64 x ∧ k ≤ m.tr.length ∧ New w wr ∧ Blk wr w.heap.size #[.string m.old, .string m.new, .string m.name, .slice ta m.tr.length tc, .slice pa m.pe.length pc, .slice sa m.ws.length sc, .slice oa m.on.length oc] 27) (fun i _ _ => m.tr.length - (intOf i).toNat)
  case atStart => exact ⟨0, _, rfl, rfl, by omega, NX.out, BX.out⟩
  case round =>
    obtain ⟨k, x, rfl, rfl, hk, hn, hbl⟩ := hrel
    have HN := hid hn; have HB := hid hbl
    clear hn hbl
    by_cases hlt : k < m.tr.length
    · obtain ⟨b1, o1, hpe, hb1, hc1⟩ := (HTR.out.new HN.out).get (by omega)
      (try dsimp only at hpe)
      subst hpe
      have g0 := hc1 k hlt
      obtain ⟨s, hs⟩ : ∃ s, s = m.tr[k] := ⟨_, rfl⟩
      rw [← hs] at g0
      clear hs hc1
      go_wp2
      exact ⟨⟨k + 1, _, by simp, rfl, by omega, HN.out, HB.out⟩, by simp [intOf]; omega⟩
    · have c5 := HB.out.cellv 5 rfl
      obtain ⟨W3, hW3⟩ : ∃ W3, W3 = wr := ⟨_, rfl⟩
      subst hW3
      go_wp2_with fail
      clear c5
      go_loopw [36, 3] (fun i n wr => ∃ (k : Nat) (x : Int), i = .int .i64 k ∧ n = .int .i64 x ∧ k ≤ m.ws.length ∧ New w wr ∧ Blk wr w.heap.size #[.string m.old, .string m.new, .string m.name, .slice ta m.tr.length tc, .slice pa m.pe.length pc, .slice sa m.ws.length sc, .slice oa m.on.length oc] 27) (fun i _ _ => m.ws.length - (intOf i).toNat)
      case atStart => exact ⟨0, _, rfl, rfl, by omega, HN.out, HB.out⟩
      case round =>
        clear HN HB
        obtain ⟨k, x, rfl, rfl, hk, hn, hbl⟩ := hrel
        have HN := hid hn; have HB := hid hbl
        clear hn hbl
        by_cases hlt : k < m.ws.length
        · obtain ⟨b1, o1, hpe, hb1, hc1⟩ := (HWS.out.new HN.out).get (by omega)
          (try dsimp only at hpe)
          subst hpe
          have g0 := hc1 k hlt
          obtain ⟨s, hs⟩ : ∃ s, s = m.ws[k] := ⟨_, rfl⟩
          rw [← hs] at g0
          clear hs hc1
          go_wp2
          exact ⟨⟨k + 1, _, by simp, rfl, by omega, HN.out, HB.out⟩, by simp [intOf]; omega⟩
        · have c4 := HB.out.cellv 4 rfl
          obtain ⟨W4, hW4⟩ : ∃ W4, W4 = wr := ⟨_, rfl⟩
          subst hW4
          go_wp2_with fail
          clear c4
          go_loopw [48, 3] (fun i n wr => ∃ (k : Nat) (x : Int), i = .int .i64 k ∧ n = .int .i64 x ∧ k ≤ m.pe.length ∧ New w wr ∧ Blk wr w.heap.size #[.string m.old, .string m.new, .string m.name, .slice ta m.tr.length tc, .slice pa m.pe.length pc, .slice sa m.ws.length sc, .slice oa m.on.length oc] 27) (fun i _ _ => m.pe.length - (intOf i).toNat)
          case atStart => exact ⟨0, _, rfl, rfl, by omega, HN.out, HB.out⟩
          case round =>
            clear HN HB
            obtain ⟨k, x, rfl, rfl, hk, hn, hbl⟩ := hrel
            have HN := hid hn; have HB := hid hbl
            clear hn hbl
            by_cases hlt : k < m.pe.length
            · obtain ⟨b1, o1, hpe, hb1, hc1⟩ := (HPE.out.new HN.out).get (by omega)
              (try dsimp only at hpe)
              subst hpe
              obtain ⟨g0, g1, g2⟩ := hc1 k hlt
              obtain ⟨y, hy⟩ : ∃ y, y = m.pe[k] := ⟨_, rfl⟩
              rw [← hy] at g0 g1 g2
              clear hy hc1
              go_wp2
              refine ⟨⟨k + 1, _, by simp, rfl, by omega, ?_, ?_⟩, by simp [intOf]; omega⟩
              · have q := HN.out
                have q2 := HN.out.size
                repeat (first | with_reducible exact q | with_reducible refine Mod.alloc ?_ _ | with_reducible refine Mod.drew ?_ | with_reducible refine Mod.drewN ?_ _ | (with_reducible refine Mod.set ?_ _ _ (by first | exact .inl rfl | (right; omega) | (right; simp; done) | (right; simp; omega) | (left; omega) | (left; simp; done) | (left; simp; omega))) | (with_reducible refine Mod.putObj ?_ _ _ (by first | exact .inl rfl | (right; omega) | (right; simp; done) | (right; simp; omega) | (left; omega) | (left; simp; done) | (left; simp; omega))))
              · have q2 := HB.out.lt
                apply Blk.row
                · repeat (first | with_reducible exact HB.out | (with_reducible apply Blk.newAt; (simp; done)) | with_reducible apply Blk.alloc | with_reducible apply Blk.drew | with_reducible apply Blk.drewN | with_reducible apply Blk.set | (with_reducible apply Blk.other; · first | (simp; done) | (simp; omega) | omega) | (with_reducible apply Blk.putObj; · first | (simp; done) | (simp; omega) | omega))
                · rfl
            · have c3 := HB.out.cellv 3 rfl; have c4 := HB.out.cellv 4 rfl; have c5 := HB.out.cellv 5 rfl; have c6 := HB.out.cellv 6 rfl
              go_wp2
              all_goals go_ret
              all_goals exact someB rfl HN.out
end Go.Proofs.YtbgmkplpolgebaaGreatDoor

namespace Go.Proofs.YtbgmkplpolgebaaGreatDoor
set_option linter.unusedSimpArgs false
set_option linter.unusedVariables false
open Go.RowKit Go.Shelf

theorem made_oneM (v : Value) (n : Nat) (hv : v.cells = #[v]) : madeCells v.cells n = Array.replicate n v := by
  apply Array.ext
  · simp [madeCells]
  · intro i h1 h2
    simp [madeCells, hv, Nat.mod_one]
theorem make_bytesM (n : Nat) (h : n ≤ 65536) (w : World) : (Instr.makeSlice 42 (.int .i64 n) (.int .i64 n)).run Tryz.prog w = .ok (.slice (some ⟨w.heap.size, 0, none⟩) n n) (w.alloc (.cells (Array.replicate n (.int .u8 0)) 5)) := by
  obtain ⟨i0, hi, hz0, hz1, hz2⟩ := info_parts info_byte
  have hr := run_makeSlice (P := Tryz.prog) w 42 5 i0 _ Tryz.underlying42 hi hz0 .i64 .i64 n n (by omega) (by omega) (by rw [hz1]; omega) (by rw [hz2]; omega) (by omega)
  rw [hr, hz1, Nat.mul_one, made_oneM _ _ rfl]
  simp
theorem zeros_text (W : World) (g : Nat) (h : W.heap.size = g) : (convert 42 9 (.slice (some ⟨g, 0, none⟩) 20 20)).run Tryz.prog (W.alloc (.cells (Array.replicate 20 (.int .u8 0)) 5)).drew = .ok (.string kZ) (W.alloc (.cells (Array.replicate 20 (.int .u8 0)) 5)).drew := by
  subst h
  have b : ByAt (W.alloc (.cells (Array.replicate 20 (.int .u8 0)) 5)) W.heap.size kZ.data.toList := by
    refine ByAt.of_blk (Blk.new W _ _) (by decide +kernel) (fun i hi => ?_)
    have hi' : i < 20 := hi
    have e : ∀ i (hi : i < kZ.data.toList.length), kZ.data.toList[i] = 0 := by decide +kernel
    rw [e i hi]
    simp [Array.getElem?_replicate, hi']
  exact (b.new (Mod.refl _ _).drew).text 20 20 (by decide +kernel)
set_option maxRecDepth 100000 in
set_option maxHeartbeats 4000000 in
theorem awake09_any (w : World) (hv : VarM w) : Calls Tryz.prog 7 #[] w fun e w' => e = .returned (.bool true) ∧ New w w' := by
  have HPA := hid (parse_awake w hv)
  unfold magA at HPA
  have hmk : ∀ w, (Instr.makeSlice 42 (.int .i64 20) (.int .i64 20)).run Tryz.prog w = .ok (.slice (some ⟨w.heap.size, 0, none⟩) 20 20) (w.alloc (.cells (Array.replicate 20 (.int .u8 0)) 5)) := make_bytesM 20 (by omega)
  have hzt := zeros_text
  have hNe : (kN.toList == [97, 32, 98]) = true := by decide +kernel
  go_enter Tryz.func7, Tryz.ntmps7
  go_wp2_with fail
  refine HPA.out.mono ?_
  rintro e w1 ⟨rfl, n1⟩
  have N1 := hid n1
  clear n1
  go_wp2
  have B0 := (Blk.new w1 #[.string kZ, .string ⟨#[]⟩, .string kN, .slice none 0 0, .slice none 0 0, .slice none 0 0, .slice none 0 0] 27).drew
  have HAL : Hid (∀ W : World, W.cell? ⟨w1.heap.size, 0, none⟩ = some (.string kZ) ∧ W.cell? ⟨w1.heap.size, 2, none⟩ = some (.string kN) → (W.alloc (.cells (Array.replicate 20 (.int .u8 0)) 5)).cell? ⟨w1.heap.size, 0, none⟩ = some (.string kZ) ∧ (W.alloc (.cells (Array.replicate 20 (.int .u8 0)) 5)).cell? ⟨w1.heap.size, 2, none⟩ = some (.string kN)) := hid (fun W ⟨h1, h2⟩ => ⟨New.cellv ((Mod.refl _ W).alloc _) h1, New.cellv ((Mod.refl _ W).alloc _) h2⟩)
  refine wp_region_held_drew (S := (fun w' => w'.cell? ⟨w1.heap.size, 0, none⟩ = some (.string kZ) ∧ w'.cell? ⟨w1.heap.size, 2, none⟩ = some (.string kN))) (by kernel_rfl) ⟨B0.cellv 0 rfl, B0.cellv 2 rfl⟩ (fun hHeld => ?_)
  clear B0
  refine tk (v := ?_) 0 ?_ ?_
  rotate_left
  · intro w hSw
    (try dsimp only at hSw)
    first | (go_simp; done) | (go_simp; with_reducible rfl) | with_reducible rfl
  simp only [Act.put, List.setIfInBounds_toArray, List.set_cons_zero, List.set_cons_succ]
  refine tk (v := ?_) 1 ?_ ?_
  rotate_left
  · intro w hSw
    (try dsimp only at hSw)
    first | (go_simp; done) | (go_simp; with_reducible rfl) | with_reducible rfl
  simp only [Act.put, List.setIfInBounds_toArray, List.set_cons_zero, List.set_cons_succ]
  refine tk (v := ?_) 2 ?_ ?_
  rotate_left
  · intro w hSw
    (try dsimp only at hSw)
    first | (go_simp; done) | (go_simp; with_reducible rfl) | with_reducible rfl
  simp only [Act.put, List.setIfInBounds_toArray, List.set_cons_zero, List.set_cons_succ]
  refine tk (v := ?_) 3 ?_ ?_
  rotate_left
  · intro w hSw
    (try dsimp only at hSw)
    first | (go_simp; done) | (go_simp; with_reducible rfl) | with_reducible rfl
  simp only [Act.put, List.setIfInBounds_toArray, List.set_cons_zero, List.set_cons_succ]
  refine tk (v := ?_) 4 ?_ ?_
  rotate_left
  · intro w hSw
    (try dsimp only at hSw)
    first | (go_simp; done) | (go_simp; with_reducible rfl) | with_reducible rfl
  simp only [Act.put, List.setIfInBounds_toArray, List.set_cons_zero, List.set_cons_succ]
  refine wpAnyH_ready (rs := [5]) (by kernel_rfl) (by simp) ?_
  refine AllReadyH.cons (by simp only [List.getElem?_toArray, List.getElem?_cons_succ, List.getElem?_cons_zero]; rfl) (fun K hK => ?_) AllReadyH.nil
  go_simp
  refine hK.out _ _ (by exact HAL.out _ hHeld) (fun hHeld5 => ?_)
  clear hK K
  try simp only [Act.put, List.setIfInBounds_toArray, List.set_cons_zero, List.set_cons_succ]
  clear hHeld
  have hHeld := hHeld5
  refine wpAnyH_ready (rs := [6]) (by kernel_rfl) (by simp) ?_
  refine AllReadyH.cons (by simp only [List.getElem?_toArray, List.getElem?_cons_succ, List.getElem?_cons_zero]; rfl) (fun K hK => ?_) AllReadyH.nil
  go_simp
  refine hK.out _ _ (by exact hHeld) (fun hHeld6 => ?_)
  clear hK K
  try simp only [Act.put, List.setIfInBounds_toArray, List.set_cons_zero, List.set_cons_succ]
  refine tk (v := ?_) 7 ?_ ?_
  rotate_left
  · intro w hSw
    (try dsimp only at hSw)
    first | (go_simp; done) | (go_simp; with_reducible rfl) | with_reducible rfl
  simp only [Act.put, List.setIfInBounds_toArray, List.set_cons_zero, List.set_cons_succ]
  refine tk (v := ?_) 8 ?_ ?_
  rotate_left
  · intro w hSw
    (try dsimp only at hSw)
    first | (go_simp; done) | (go_simp; with_reducible rfl) | with_reducible rfl
  simp only [Act.put, List.setIfInBounds_toArray, List.set_cons_zero, List.set_cons_succ]
  refine tk (v := ?_) 9 ?_ ?_
  rotate_left
  · intro w hSw
    (try dsimp only at hSw)
    first | (go_simp; done) | (go_simp; with_reducible rfl) | with_reducible rfl
  simp only [Act.put, List.setIfInBounds_toArray, List.set_cons_zero, List.set_cons_succ]
  refine tk (v := ?_) 10 ?_ ?_
  rotate_left
  · intro w hSw
    (try dsimp only at hSw)
    first | (go_simp; done) | (go_simp; with_reducible rfl) | with_reducible rfl
  simp only [Act.put, List.setIfInBounds_toArray, List.set_cons_zero, List.set_cons_succ]
  refine tk (v := ?_) 11 ?_ ?_
  rotate_left
  · intro w hSw
    (try dsimp only at hSw)
    first | (go_simp; done) | (go_simp; with_reducible rfl) | with_reducible rfl
  simp only [Act.put, List.setIfInBounds_toArray, List.set_cons_zero, List.set_cons_succ]
  refine tk (v := ?_) 12 ?_ ?_
  rotate_left
  · intro w hSw
    (try dsimp only at hSw)
    first | (go_simp; done) | (go_simp; with_reducible rfl) | with_reducible rfl
  simp only [Act.put, List.setIfInBounds_toArray, List.set_cons_zero, List.set_cons_succ]
  refine tk (v := ?_) 13 ?_ ?_
  rotate_left
  · intro w hSw
    (try dsimp only at hSw)
    first | (go_simp; done) | (go_simp; with_reducible rfl) | with_reducible rfl
  simp only [Act.put, List.setIfInBounds_toArray, List.set_cons_zero, List.set_cons_succ]
  refine tk (v := ?_) 14 ?_ ?_
  rotate_left
  · intro w hSw
    (try dsimp only at hSw)
    first | (go_simp; done) | (go_simp; with_reducible rfl) | with_reducible rfl
  simp only [Act.put, List.setIfInBounds_toArray, List.set_cons_zero, List.set_cons_succ]
  refine wpAnyH_done (by kernel_rfl) ?_ _
  go_wp2
  go_ret
  refine ⟨rfl, ?_⟩
  repeat (first | with_reducible exact N1.out | with_reducible refine Mod.alloc ?_ _ | with_reducible refine Mod.drew ?_ | with_reducible refine Mod.drewN ?_ _ | (with_reducible refine Mod.set ?_ _ _ (by first | exact .inl rfl | (right; omega) | (right; simp; done) | (right; simp; omega) | (left; omega) | (left; simp; done) | (left; simp; omega))) | (with_reducible refine Mod.putObj ?_ _ _ (by first | exact .inl rfl | (right; omega) | (right; simp; done) | (right; simp; omega) | (left; omega) | (left; simp; done) | (left; simp; omega))))
end Go.Proofs.YtbgmkplpolgebaaGreatDoor

namespace Go.Proofs.YtbgmkplpolgebaaGreatDoor
set_option linter.unusedSimpArgs false
set_option linter.unusedVariables false
open Go.RowKit Go.MapKept

/-- Block b is a map of keys of kind d; its entries are L, in the order in which they lie. -/
def MapL (w : World) (b : Nat) (d : TypeDesc) (L : List (Value × Value)) : Prop :=
  ∃ es clock, w.heap[b]? = some (.map es clock) ∧ Stamped es clock ∧ (∀ x ∈ es.toList, IsKey d x.key) ∧ es.toList.map (fun x => (x.key, x.val)) = L
theorem MapL.of_heap {w w' : World} {b : Nat} {d : TypeDesc} {L : List (Value × Value)} (h : MapL w b d L) (e : w'.heap[b]? = w.heap[b]?) : MapL w' b d L := by
  obtain ⟨es, clock, hb, h1⟩ := h
  exact ⟨es, clock, e.trans hb, h1⟩
theorem MapL.lt {w : World} {b : Nat} {d : TypeDesc} {L : List (Value × Value)} (h : MapL w b d L) : b < w.heap.size := by
  obtain ⟨es, clock, hb, -⟩ := h
  exact (Array.getElem?_eq_some_iff.1 hb).1
theorem MapL.mod {T : Nat → Prop} {w w' : World} {b : Nat} {d : TypeDesc} {L : List (Value × Value)} (h : MapL w b d L) (hm : Mod T w w') (hn : ¬ T b) : MapL w' b d L := h.of_heap (hm.block b h.lt hn)
theorem MapL.new {w w' : World} {b : Nat} {d : TypeDesc} {L : List (Value × Value)} (h : MapL w b d L) (hm : New w w') : MapL w' b d L := h.mod hm (fun q => q)
theorem MapL.made (w : World) (d : TypeDesc) {b : Nat} (hb : b = w.heap.size) : MapL (w.alloc (.map #[] 0)) b d [] := by
  subst hb
  exact ⟨#[], 0, (MapKept.heap_alloc w _).1, stamped_empty 0, by simp, rfl⟩
theorem Mod.setObjL {w : World} {b : Nat} (o : Obj) : Mod (· = b) w { w with heap := w.heap.setIfInBounds b o } :=
  ⟨rfl, rfl, rfl, by simp, fun k hk hn => by simp [Ne.symm hn]⟩
theorem MapL.keys {w : World} {b : Nat} {d : TypeDesc} {L : List (Value × Value)} (h : MapL w b d L) : (L.map (·.1)).Nodup ∧ ∀ x ∈ L, IsKey d x.1 := by
  obtain ⟨es, clock, hb, hs, hk, rfl⟩ := h
  refine ⟨?_, fun x hx => ?_⟩
  · rw [List.map_map]; exact hs.2.2
  · obtain ⟨e, he, rfl⟩ := List.mem_map.1 hx
    exact hk e he
theorem map_at {es : Array MapEntry} {L : List (Value × Value)} (h : es.toList.map (fun x => (x.key, x.val)) = L) {i : Nat} {k v : Value} (hi : L[i]? = some (k, v)) : ∃ e, es[i]? = some e ∧ e.key = k ∧ e.val = v ∧ i < es.size := by
  subst h
  rw [List.getElem?_map, Option.map_eq_some_iff] at hi
  obtain ⟨e, he, q⟩ := hi
  rw [Array.getElem?_toList] at he
  cases q
  exact ⟨e, he, rfl, rfl, (Array.getElem?_eq_some_iff.1 he).1⟩
theorem find_at {es : Array MapEntry} {clock : Nat} {d : TypeDesc} {key : Value} (hs : Stamped es clock) (hks : ∀ x ∈ es.toList, IsKey d x.key) (hk : IsKey d key) {i : Nat} {e : MapEntry} (hi : es[i]? = some e) (he : e.key = key) :
    Instr.findNow d key es.toList 0 = some (some (i, e.val)) := by
  rcases findNow_spec hk es.toList 0 hks with ⟨-, f2⟩ | ⟨j, x, f1, f2, f3⟩
  · exact absurd he (f2 e (Array.mem_toList_iff.2 (Array.mem_of_getElem? hi)))
  · have hj : (es.toList.map (·.key))[j]? = some key := by rw [List.getElem?_map, f2, Option.map_some, f3]
    have hi2 : (es.toList.map (·.key))[i]? = some key := by rw [List.getElem?_map, Array.getElem?_toList, hi, Option.map_some, he]
    have hij : j = i := by
      have h1 := (List.getElem?_eq_some_iff.1 hj).1
      have h2 := (List.getElem?_eq_some_iff.1 hi2).1
      exact (List.getElem_inj hs.2.2 (h₀ := h1) (h₁ := h2)).1 (by rw [(List.getElem?_eq_some_iff.1 hj).2, (List.getElem?_eq_some_iff.1 hi2).2])
    subst hij
    have : x = e := by rw [Array.getElem?_toList, hi] at f2; exact (Option.some.inj f2).symm
    rw [f1, this, Nat.zero_add]
theorem find_no {es : Array MapEntry} {d : TypeDesc} {key : Value} {L : List (Value × Value)} (hL : es.toList.map (fun x => (x.key, x.val)) = L) (hks : ∀ x ∈ es.toList, IsKey d x.key) (hk : IsKey d key) (hn : ∀ x ∈ L, x.1 ≠ key) :
    Instr.findNow d key es.toList 0 = some none := by
  rcases findNow_spec hk es.toList 0 hks with ⟨f1, -⟩ | ⟨j, x, -, f2, f3⟩
  · exact f1
  · subst hL
    exact absurd f3 (hn (x.key, x.val) (List.mem_map.2 ⟨x, List.mem_of_getElem? f2, rfl⟩))
section
variable {P : Program} {w : World} {b : Nat} {d : TypeDesc} {L : List (Value × Value)} {t k e : TypeId} {key : Value}
theorem MapL.look_at (h : MapL w b d L) (ht : P.underlying t = some (.map k e)) (hd : P.underlying k = some d) (hk : IsKey d key) {i : Nat} {v : Value} (hi : L[i]? = some (key, v)) (ok : Bool) :
    (Instr.lookup t (.map (some b)) key ok).run P w = .ok (if ok then .tuple #[v, .bool true] else v) w := by
  obtain ⟨es, clock, hb, hs, hks, hL⟩ := h
  obtain ⟨x, hx, e1, e2, -⟩ := map_at hL hi
  have f := find_at hs hks hk hx e1
  rw [e2] at f
  simp [Instr.lookup, run_underlying ht, MapKept.run_getObj_map hb, MapKept.run_checkKey hd hk, MapKept.run_findKey hd f, Result.andThen]
theorem MapL.put_no (h : MapL w b d L) (ht : P.underlying t = some (.map k e)) (hd : P.underlying k = some d) (hk : IsKey d key) (hn : ∀ x ∈ L, x.1 ≠ key) (v : Value) :
    ∃ w', (Instr.mapUpdate t (.map (some b)) key v).run P w = .ok () w' ∧ MapL w' b d (L ++ [(key, v)]) ∧ Mod (· = b) w w' := by
  obtain ⟨es, clock, hb, hs, hks, hL⟩ := h
  have f := find_no hL hks hk hn
  refine ⟨_, by simp [Instr.mapUpdate, run_underlying ht, MapKept.run_getObj_map hb, MapKept.run_checkKey hd hk, MapKept.run_findKey hd f, MapKept.run_setObj_map _ hb, Result.andThen]; rfl, ⟨_, _, (MapKept.heap_set hb).1, stamped_push hs (fun x hx q => ?_), fun x hx => ?_, ?_⟩, Mod.setObjL _⟩
  · subst hL
    exact hn (x.key, x.val) (List.mem_map.2 ⟨x, hx, rfl⟩) q
  · simp only [Array.toList_push, List.mem_append, List.mem_singleton] at hx
    rcases hx with hx | rfl
    · exact hks x hx
    · exact hk
  · rw [Array.toList_push, List.map_append, hL]
    rfl
theorem map_modify {es : Array MapEntry} {i : Nat} {x : MapEntry} (f : MapEntry → MapEntry) (hi : es[i]? = some x) : (es.modify i f).toList.map (fun x => (x.key, x.val)) = (es.toList.map (fun x => (x.key, x.val))).set i ((f x).key, (f x).val) := by
  have hlt := (Array.getElem?_eq_some_iff.1 hi).1
  apply List.ext_getElem?
  intro j
  rw [List.getElem?_map, Array.getElem?_toList, Array.getElem?_modify, List.getElem?_set, List.length_map, Array.length_toList, List.getElem?_map, Array.getElem?_toList]
  by_cases q : i = j
  · subst q
    rw [if_pos rfl, if_pos rfl, if_pos hlt, hi]
    rfl
  · rw [if_neg q, if_neg q]
theorem MapL.put_at (h : MapL w b d L) (ht : P.underlying t = some (.map k e)) (hd : P.underlying k = some d) (hk : IsKey d key) {i : Nat} {u : Value} (hi : L[i]? = some (key, u)) (v : Value) :
    ∃ w', (Instr.mapUpdate t (.map (some b)) key v).run P w = .ok () w' ∧ MapL w' b d (L.set i (key, v)) ∧ Mod (· = b) w w' := by
  obtain ⟨es, clock, hb, hs, hks, hL⟩ := h
  obtain ⟨x, hx, e1, e2, -⟩ := map_at hL hi
  have f := find_at hs hks hk hx e1
  refine ⟨{ w with heap := w.heap.setIfInBounds b (.map (es.modify i fun e => { e with key := key, val := v }) clock) }, by simp [Instr.mapUpdate, run_underlying ht, MapKept.run_getObj_map hb, MapKept.run_checkKey hd hk, MapKept.run_findKey hd f, MapKept.run_setObj_map _ hb, Result.andThen, hx, e1, MapKept.run_keyThatStays hk], ⟨_, _, (MapKept.heap_set hb).1, stamped_modify hs _ _ (fun _ _ => rfl) (fun y _ q => ?_), isKey_modify hks _ _ (fun y q => ?_), ?_⟩, Mod.setObjL _⟩
  · rw [hx] at q; cases q; exact e1.symm
  · rw [hx] at q; cases q; exact e1.symm
  · rw [map_modify _ hx, hL]
theorem MapL.len (h : MapL w b d L) (ht : P.underlying t = some (.map k e)) (ty : TypeId) : (Builtin.len_ #[t] ty #[.map (some b)]).run P w = .ok (.int .i64 L.length) w := by
  obtain ⟨es, clock, hb, hs, hks, hL⟩ := h
  have hl : es.size = L.length := by rw [← hL, List.length_map, Array.length_toList]
  simp [Builtin.len_, run_underlying ht, MapKept.run_getObj_map hb, Result.andThen, goInt, hl]
end
end Go.Proofs.YtbgmkplpolgebaaGreatDoor
