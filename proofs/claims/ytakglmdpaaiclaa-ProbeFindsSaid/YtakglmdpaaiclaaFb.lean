/-
  The walk of package probe's Find. Conditions: the chance is a slice of bools that lies in memory.
-/
import Derived.Test.YtakglmdpaaiclaaFa
namespace Go.Proofs.Ytakglmdpaaiclaa
set_option linter.unusedSimpArgs false
set_option linter.unusedVariables false
open Go.RowKit Go.Shelf
attribute [local go_sem] Oper.semAt_some

/-- v is a slice that holds ch. -/
def BoolsAt (w : World) (v : Value) (ch : List Bool) : Prop :=
  ((∃ a c, v = .slice a 0 c) ∧ ch = []) ∨ ∃ cb coff cap, v = .slice (some ⟨cb, coff, none⟩) ch.length cap ∧ cb < w.heap.size ∧ ch.length ≤ maxLen ∧ ∀ i, i < ch.length → w.cell? ⟨cb, coff + i, none⟩ = some (.bool (ch.getD i false))
theorem BoolsAt.new {w w' : World} {v : Value} {ch : List Bool} (h : BoolsAt w v ch) (hn : New w w') : BoolsAt w' v ch := by
  rcases h with h | ⟨cb, coff, cap, hv, hb, hl, hc⟩
  · exact .inl h
  · exact .inr ⟨cb, coff, cap, hv, Nat.lt_of_lt_of_le hb hn.size, hl, fun i hi => by
      have : w'.cell? ⟨cb, coff + i, none⟩ = w.cell? ⟨cb, coff + i, none⟩ := World.cell?_of_block (w := w) (hn.block cb hb (fun x => x))
      rw [this]; exact hc i hi⟩


theorem find_bad1 (low high bound : Int) (ca : Option Addr) (cn cc : Nat) (w : World) (hr : right low high = false) :
    Calls Try.prog 7 #[.int .i64 low, .int .i64 high, .int .i64 bound, .slice ca cn cc] w fun e w' => e = .returned (.tuple #[.int .i64 0, .int .i64 0, .int .i64 7]) ∧ New w w' := by
  go_enter Try.func7, Try.ntmps7
  go_wp2_with (go_at_call 12; refine (new_bad _ _ _ hr).mono ?_; rintro e w' ⟨rfl, rfl⟩)
  refine bodyPost_ret (v := .tuple #[.int .i64 0, .int .i64 0, .int .i64 7]) (by simp [results, Try.results7, go_sem]) rfl ⟨rfl, ?_⟩
  repeat (first | with_reducible exact Mod.refl _ _ | with_reducible refine Mod.alloc ?_ _ | with_reducible refine Mod.drew ?_ | with_reducible refine Mod.drewN ?_ _ | (with_reducible refine Mod.set ?_ _ _ (by first | exact .inl rfl | (right; omega) | (right; simp; done) | (right; simp; omega) | (left; omega) | (left; simp; done) | (left; simp; omega))) | (with_reducible refine Mod.putObj ?_ _ _ (by first | exact .inl rfl | (right; omega) | (right; simp; done) | (right; simp; omega) | (left; omega) | (left; simp; done) | (left; simp; omega))))
theorem boxes5 (w : World) (c0 c1 c2 c3 c4 : Array Value) (t0 t1 t2 t3 t4 : TypeId) :
    Blk (((((w.alloc (.cells c0 t0)).alloc (.cells c1 t1)).alloc (.cells c2 t2)).alloc (.cells c3 t3)).alloc (.cells c4 t4)) w.heap.size c0 t0 ∧
    Blk (((((w.alloc (.cells c0 t0)).alloc (.cells c1 t1)).alloc (.cells c2 t2)).alloc (.cells c3 t3)).alloc (.cells c4 t4)) (w.heap.size + 1) c1 t1 ∧
    Blk (((((w.alloc (.cells c0 t0)).alloc (.cells c1 t1)).alloc (.cells c2 t2)).alloc (.cells c3 t3)).alloc (.cells c4 t4)) (w.heap.size + 1 + 1) c2 t2 ∧
    Blk (((((w.alloc (.cells c0 t0)).alloc (.cells c1 t1)).alloc (.cells c2 t2)).alloc (.cells c3 t3)).alloc (.cells c4 t4)) (w.heap.size + 1 + 1 + 1) c3 t3 ∧
    Blk (((((w.alloc (.cells c0 t0)).alloc (.cells c1 t1)).alloc (.cells c2 t2)).alloc (.cells c3 t3)).alloc (.cells c4 t4)) (w.heap.size + 1 + 1 + 1 + 1) c4 t4 :=
  ⟨((((Blk.new w _ _).alloc _).alloc _).alloc _).alloc _, (((Blk.newAt (by simp)).alloc _).alloc _).alloc _, ((Blk.newAt (by simp)).alloc _).alloc _, (Blk.newAt (by simp)).alloc _, Blk.newAt (by simp)⟩

set_option maxHeartbeats 800000 in
theorem find_bad2 (low high bound : Int) (ca : Option Addr) (cn cc : Nat) (w : World) (hr : right low high = true) (hb : bound < 0 ∨ 10000 < bound) :
    Calls Try.prog 7 #[.int .i64 low, .int .i64 high, .int .i64 bound, .slice ca cn cc] w fun e w' => e = .returned (.tuple #[.int .i64 0, .int .i64 0, .int .i64 7]) ∧ New w w' := by
  have hbx := hid (boxes5 w #[.int .i64 bound] #[.slice ca cn cc] #[.int .i64 0] #[.int .i64 0] #[.int .i64 0] 3 22 3 3 24)
  have HR := hid hr
  clear hr
  by_cases h1 : bound < 0
  · clear hb
    go_enter Try.func7, Try.ntmps7
    go_wp2_with (go_at_call 12; refine (new_ok _ _ _ HR.out).mono ?_; rintro e w1 ⟨rfl, hB1, hN1⟩; have HN1 := hid hN1; have hsz := hN1.size; simp only [World.size_alloc] at hsz; obtain ⟨g0, g1, g2, g3, g4⟩ := hbx.out; obtain ⟨d0, -, l0⟩ := (New.blk hN1 g0).one; obtain ⟨d2, e2, l2⟩ := (New.blk hN1 g2).one; obtain ⟨d3, e3, l3⟩ := (New.blk hN1 g3).one; obtain ⟨d4, e4, l4⟩ := (New.blk hN1 g4).one; clear g0 g1 g2 g3 g4 hB1 hN1)
    refine bodyPost_ret (v := .tuple #[.int .i64 0, .int .i64 0, .int .i64 7]) (by simp [results, Try.results7, go_sem, d2, d3, d4, l2, l3, l4]) rfl ⟨rfl, ?_⟩
    have hN0 : New w w1 := by
      refine Mod.trans ?_ HN1.out
      repeat (first | with_reducible exact Mod.refl _ _ | with_reducible refine Mod.alloc ?_ _ | with_reducible refine Mod.drew ?_ | with_reducible refine Mod.drewN ?_ _ | (with_reducible refine Mod.set ?_ _ _ (by first | exact .inl rfl | (right; omega) | (right; simp; done) | (right; simp; omega) | (left; omega) | (left; simp; done) | (left; simp; omega))) | (with_reducible refine Mod.putObj ?_ _ _ (by first | exact .inl rfl | (right; omega) | (right; simp; done) | (right; simp; omega) | (left; omega) | (left; simp; done) | (left; simp; omega))))
    repeat (first | with_reducible exact hN0 | with_reducible refine Mod.alloc ?_ _ | with_reducible refine Mod.drew ?_ | with_reducible refine Mod.drewN ?_ _ | (with_reducible refine Mod.set ?_ _ _ (by first | exact .inl rfl | (right; omega) | (right; simp; done) | (right; simp; omega) | (left; omega) | (left; simp; done) | (left; simp; omega))) | (with_reducible refine Mod.putObj ?_ _ _ (by first | exact .inl rfl | (right; omega) | (right; simp; done) | (right; simp; omega) | (left; omega) | (left; simp; done) | (left; simp; omega))))
  · have h2 : 10000 < bound := by omega
    clear hb
    go_enter Try.func7, Try.ntmps7
    go_wp2_with (go_at_call 12; refine (new_ok _ _ _ HR.out).mono ?_; rintro e w1 ⟨rfl, hB1, hN1⟩; have HN1 := hid hN1; have hsz := hN1.size; simp only [World.size_alloc] at hsz; obtain ⟨g0, g1, g2, g3, g4⟩ := hbx.out; obtain ⟨d0, -, l0⟩ := (New.blk hN1 g0).one; obtain ⟨d2, e2, l2⟩ := (New.blk hN1 g2).one; obtain ⟨d3, e3, l3⟩ := (New.blk hN1 g3).one; obtain ⟨d4, e4, l4⟩ := (New.blk hN1 g4).one; clear g0 g1 g2 g3 g4 hB1 hN1)
    refine bodyPost_ret (v := .tuple #[.int .i64 0, .int .i64 0, .int .i64 7]) (by simp [results, Try.results7, go_sem, d2, d3, d4, l2, l3, l4]) rfl ⟨rfl, ?_⟩
    have hN0 : New w w1 := by
      refine Mod.trans ?_ HN1.out
      repeat (first | with_reducible exact Mod.refl _ _ | with_reducible refine Mod.alloc ?_ _ | with_reducible refine Mod.drew ?_ | with_reducible refine Mod.drewN ?_ _ | (with_reducible refine Mod.set ?_ _ _ (by first | exact .inl rfl | (right; omega) | (right; simp; done) | (right; simp; omega) | (left; omega) | (left; simp; done) | (left; simp; omega))) | (with_reducible refine Mod.putObj ?_ _ _ (by first | exact .inl rfl | (right; omega) | (right; simp; done) | (right; simp; omega) | (left; omega) | (left; simp; done) | (left; simp; omega))))
    repeat (first | with_reducible exact hN0 | with_reducible refine Mod.alloc ?_ _ | with_reducible refine Mod.drew ?_ | with_reducible refine Mod.drewN ?_ _ | (with_reducible refine Mod.set ?_ _ _ (by first | exact .inl rfl | (right; omega) | (right; simp; done) | (right; simp; omega) | (left; omega) | (left; simp; done) | (left; simp; omega))) | (with_reducible refine Mod.putObj ?_ _ _ (by first | exact .inl rfl | (right; omega) | (right; simp; done) | (right; simp; omega) | (left; omega) | (left; simp; done) | (left; simp; omega))))
end Go.Proofs.Ytakglmdpaaiclaa
