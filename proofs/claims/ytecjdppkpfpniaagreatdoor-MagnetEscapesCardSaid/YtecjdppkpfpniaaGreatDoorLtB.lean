/-
  Bytes that a call writes into a slice of its own: how they lie, appended, changed, and read back as a text. Condition: as told.
-/
import Derived.Test.YtecjdppkpfpniaaGreatDoorMem5
import Derived.Laws.BytesArg
import Derived.OwnWalk
import Derived.Deep.Onto
import Derived.Maps.AppendAt
namespace Go.Proofs.YtecjdppkpfpniaaGreatDoor
set_option linter.unusedSimpArgs false
set_option linter.unusedVariables false
open Go.RowKit

theorem info_byte : (Tryz.prog.info? 5).map (fun i => (i.zero, i.size, i.bytes)) = some (some (.int .u8 0), 1, 1) := by kernel_rfl
def byV (l : List UInt8) : List Value := l.map (fun b => Value.int .u8 (b.toNat : Int))
theorem byV_app (l r : List UInt8) : byV l ++ byV r = byV (l ++ r) := by simp [byV]
/-- The slice v, of the call's own memory from block base on, holds the bytes l. -/
def OwnY (w : World) (base : Nat) (v : Value) (l : List UInt8) : Prop := w.ownsRow base 5 1 v l.length (byV l)
theorem OwnY.nil (w : World) (base : Nat) : OwnY w base (.slice none 0 0) [] := World.ownsRow_nil _ _ _ _
theorem grown_newY {w w' : World} (n : New w w') (row : Option Nat) : w.grownBy w' row := ⟨n.os, n.tape, n.output, n.size, fun k hk _ => n.block k hk (fun x => x)⟩
theorem OwnY.new {w w' : World} {base : Nat} {v : Value} {l : List UInt8} (h : OwnY w base v l) (n : New w w') : OwnY w' base v l := by
  unfold OwnY at *
  cases hv : v.ownBlock with
  | none => exact h.kept (grown_newY n none) (.inl hv)
  | some k => exact h.kept (grown_newY n none) (.inr (by rw [hv]; simp))
theorem OwnY.form {w : World} {base : Nat} {v : Value} {l : List UInt8} (h : OwnY w base v l) : (v = .slice none 0 0 ∧ l = []) ∨ ∃ g cap, v = .slice (some ⟨g, 0, none⟩) l.length cap ∧ base ≤ g ∧ g < w.heap.size ∧ l.length ≤ cap ∧ cap ≤ maxLen ∧ (∀ (i : Nat) (hi : i < l.length), w.cell? ⟨g, i, none⟩ = some (.int .u8 (l[i].toNat : Int))) ∧ ∀ i, w.frozen? ⟨g, i, none⟩ = false := by
  rcases h.2 with ⟨rfl, hn⟩ | ⟨g, cap, cur, rfl, hbg, hg, hnc, hcm, hcs, htake⟩
  · exact .inl ⟨rfl, List.eq_nil_of_length_eq_zero hn⟩
  · refine .inr ⟨g, cap, rfl, hbg, (Array.getElem?_eq_some_iff.1 hg).1, hnc, hcm, fun i hi => ?_, fun i => by simp [World.frozen?, hg]⟩
    have h1 : (byV l)[i]? = some (.int .u8 (l[i].toNat : Int)) := by simp [byV, hi]
    rw [← htake, List.getElem?_take, if_pos (by omega)] at h1
    simp [World.cell?, hg]
    simpa using h1
theorem ownY_text {w : World} {base : Nat} {v : Value} {l : List UInt8} (h : OwnY w base v l) : (convert 59 9 v).run Tryz.prog w = .ok (.string ⟨l.toArray⟩) w := by
  rcases h.form with ⟨rfl, rfl⟩ | ⟨g, cap, rfl, -, -, -, -, hc, -⟩
  · exact run_convert_bytes_nil w 59 5 Tryz.underlying59 Tryz.underlying5 0 0 9 Tryz.underlying9
  · have := run_convert_bytes_arg (P := Tryz.prog) w 59 5 Tryz.underlying59 Tryz.underlying5 g 0 l.length cap (l.map (fun b => (b.toNat : Int))) (by simp) (fun i hi => by
      rw [Nat.zero_add, hc i hi]
      simp [List.getD, hi]) 9 Tryz.underlying9
    rw [this]
    have e : strOfNums (l.map (fun b => (b.toNat : Int))) = ⟨l.toArray⟩ := by
      unfold strOfNums
      rw [List.map_map]
      have : ((fun n : Int => UInt8.ofNat n.toNat) ∘ fun b : UInt8 => (b.toNat : Int)) = id := by
        funext b
        simp
      rw [this, List.map_id]
    rw [e]
theorem list_take_set {α : Type} (l : List α) (n i : Nat) (x : α) (h : i < n) : (l.set i x).take n = (l.take n).set i x := by
  apply List.ext_getElem?
  intro j
  rw [List.getElem?_take, List.getElem?_set, List.getElem?_set, List.getElem?_take, List.length_take]
  by_cases h1 : j < n
  · rw [if_pos h1, if_pos h1]
    by_cases h2 : i = j
    · rw [if_pos h2, if_pos h2]
      by_cases h3 : i < l.length
      · rw [if_pos h3, if_pos (by omega)]
      · rw [if_neg h3, if_neg (by omega)]
    · rw [if_neg h2, if_neg h2]
  · rw [if_neg h1, if_neg h1, if_neg (by omega)]
/-- A byte of it is written anew. -/
theorem OwnY.put {w : World} {base g cap : Nat} {l : List UInt8} (h : OwnY w base (.slice (some ⟨g, 0, none⟩) l.length cap) l) {i : Nat} (hi : i < l.length) (b : UInt8) : OwnY (w.setCell ⟨g, i, none⟩ (.int .u8 (b.toNat : Int))) base (.slice (some ⟨g, 0, none⟩) l.length cap) (l.set i b) := by
  rcases h.2 with ⟨q, -⟩ | ⟨g', cap', cur, q, hbg, hg, hnc, hcm, hcs, htake⟩
  · cases q
  · injection q with q1 q2 q3
    injection q1 with q1
    injection q1 with q1
    subst q1 q3
    have hb : Blk w g cur 5 := hg
    have hs := hb.set i (.int .u8 (b.toNat : Int))
    refine ⟨by simp [byV], .inr ⟨g, cap, cur.setIfInBounds i (.int .u8 (b.toNat : Int)), by rw [List.length_set], hbg, hs, by rw [List.length_set]; exact hnc, hcm, by simpa using hcs, ?_⟩⟩
    rw [List.length_set, Array.toList_setIfInBounds, list_take_set _ _ _ _ (by omega), htake]
    simp [byV, List.map_set]
theorem OwnY.block {w : World} {base g : Nat} {v : Value} {l : List UInt8} (h : OwnY w base v l) (hv : v.ownBlock = some g) : base ≤ g := by
  rcases h.form with ⟨rfl, -⟩ | ⟨g', cap, rfl, h1, -⟩
  · cases hv
  · injection hv with hv
    subst hv
    exact h1
theorem new_grownY {w w0 w' : World} {base : Nat} {v : Value} {l : List UInt8} (h : OwnY w base v l) (hb : w0.heap.size ≤ base) (n : New w0 w) (g : w.grownBy w' v.ownBlock) : New w0 w' :=
  ⟨g.os.trans n.os, g.tape.trans n.tape, g.output.trans n.output, Nat.le_trans n.size g.size, fun k hk hx => (g.block k (Nat.lt_of_lt_of_le hk n.size) (fun q => by have := h.block q.symm; omega)).trans (n.block k hk hx)⟩
theorem new_putY {w w0 : World} {g i : Nat} {u : Value} (n : New w0 w) (hb : w0.heap.size ≤ g) : New w0 (w.setCell ⟨g, i, none⟩ u) := n.set _ _ (.inr hb)
theorem ownY_of {w : World} {base : Nat} {v : Value} {l : List UInt8} (r : List UInt8) (h : w.ownsRow base 5 1 v (l.length + r.length) (byV l ++ byV r)) : OwnY w base v (l ++ r) := by
  unfold OwnY
  rw [List.length_append, ← byV_app]
  exact h
end Go.Proofs.YtecjdppkpfpniaaGreatDoor
