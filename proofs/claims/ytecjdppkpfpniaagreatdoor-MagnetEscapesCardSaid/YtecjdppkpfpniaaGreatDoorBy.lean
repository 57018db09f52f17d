/-
  Bytes that lie in a block, whoever laid them: read, written, made a text; what '[]byte(s)' lays. Plain facts over the program. No condition.
-/
import Derived.Test.YtecjdppkpfpniaaGreatDoorMem5
import Derived.Laws.IdiomStrings
namespace Go.Proofs.YtecjdppkpfpniaaGreatDoor
set_option linter.unusedSimpArgs false
set_option linter.unusedVariables false
open Go.RowKit

/-- The first cells of block g are the bytes s, and may be written. -/
def ByAt (w : World) (g : Nat) (s : List UInt8) : Prop :=
  ∃ (C : Array Value) (fr : Nat × Nat), w.heap[g]? = some (.cells C 5 fr) ∧ s.length ≤ C.size ∧ C.size ≤ fr.1 + (if fr = (0, 0) then C.size else 0) ∧ ∀ (i : Nat) (hi : i < s.length), C[i]? = some (.int .u8 (s[i].toNat : Int))
theorem ByAt.cell {w : World} {g : Nat} {s : List UInt8} (h : ByAt w g s) {i : Nat} (hi : i < s.length) : w.cell? ⟨g, i, none⟩ = some (.int .u8 (s[i].toNat : Int)) := by
  obtain ⟨C, fr, h1, -, -, h4⟩ := h
  simp only [World.cell?, h1]
  exact h4 i hi
theorem ByAt.lt {w : World} {g : Nat} {s : List UInt8} (h : ByAt w g s) : g < w.heap.size := by
  obtain ⟨C, fr, h1, -⟩ := h
  exact (Array.getElem?_eq_some_iff.1 h1).1
theorem ByAt.frz {w : World} {g : Nat} {s : List UInt8} (h : ByAt w g s) {i : Nat} (hi : i < s.length) : w.frozen? ⟨g, i, none⟩ = false := by
  obtain ⟨C, fr, h1, h2, h3, -⟩ := h
  obtain ⟨lo, hi2⟩ := fr
  simp only [World.frozen?, h1]
  by_cases e : (lo, hi2) = (0, 0)
  · cases e
    simp
  · rw [if_neg e] at h3
    have : ¬ lo ≤ i := by simp only at h3; omega
    simp [this]
theorem ByAt.of_heap {w w' : World} {g : Nat} {s : List UInt8} (h : ByAt w g s) (e : w'.heap[g]? = w.heap[g]?) : ByAt w' g s := by
  obtain ⟨C, fr, h1, h2⟩ := h
  exact ⟨C, fr, e.trans h1, h2⟩
theorem ByAt.new {w w' : World} {g : Nat} {s : List UInt8} (h : ByAt w g s) (n : New w w') : ByAt w' g s := h.of_heap (n.block g h.lt (fun x => x))
theorem ByAt.mod {S : Nat → Prop} {w w' : World} {g : Nat} {s : List UInt8} (h : ByAt w g s) (n : Mod S w w') (hg : ¬ S g) : ByAt w' g s := h.of_heap (n.block g h.lt hg)
theorem ByAt.of_blk {w : World} {g : Nat} {s : List UInt8} {cs : Array Value} (h : Blk w g cs 5) (hl : s.length ≤ cs.size) (hc : ∀ (i : Nat) (hi : i < s.length), cs[i]? = some (.int .u8 (s[i].toNat : Int))) : ByAt w g s :=
  ⟨cs, (0, 0), h, hl, by simp, hc⟩
theorem ByAt.set {w : World} {g : Nat} {s : List UInt8} (h : ByAt w g s) {i : Nat} (hi : i < s.length) (b : UInt8) : ByAt (w.setCell ⟨g, i, none⟩ (.int .u8 (b.toNat : Int))) g (s.set i b) := by
  obtain ⟨C, fr, h1, h2, h3, h4⟩ := h
  refine ⟨C.setIfInBounds i (.int .u8 (b.toNat : Int)), fr, ?_, by simpa using h2, by simpa using h3, fun j hj => ?_⟩
  · have hlt : g < w.heap.size := (Array.getElem?_eq_some_iff.1 h1).1
    have h' : w.heap[g] = .cells C 5 fr := by simpa [Array.getElem?_eq_getElem hlt] using h1
    show (w.heap.modify g _)[g]? = _
    rw [Array.getElem?_eq_getElem (by simpa using hlt), Array.getElem_modify_self, h']
    rfl
  · rw [List.length_set] at hj
    rw [Array.getElem?_setIfInBounds]
    by_cases e : i = j
    · subst e
      rw [if_pos rfl, if_pos (by omega)]
      simp
    · rw [if_neg e, h4 j hj, List.getElem_set_ne e]
/-- Behind '[]byte(s)'. -/
abbrev afterBytes (w : World) (s : ByteArray) : World :=
  w.drew.alloc (.cells (bytesRow s (grownCap w s.size 0 5)) 5 ((bytesRow s (grownCap w s.size 0 5)).size, (bytesRow s (grownCap w s.size 0 5)).size + 1))
theorem bytes_of (w : World) (s : ByteArray) : (convert 9 59 (.string s)).run Tryz.prog w = .ok (.slice (some ⟨w.heap.size, 0, none⟩) s.size (grownCap w s.size 0 5)) (afterBytes w s) :=
  run_bytes_of_string w 9 59 5 s Tryz.underlying9 Tryz.underlying59 Tryz.underlying5
theorem bytes_lie (w : World) (s : ByteArray) {g : Nat} (hg : g = w.heap.size) : ByAt (afterBytes w s) g s.data.toList := by
  subst hg
  refine ⟨bytesRow s (grownCap w s.size 0 5), ((bytesRow s (grownCap w s.size 0 5)).size, (bytesRow s (grownCap w s.size 0 5)).size + 1), (show (w.heap.push _)[w.heap.size]? = _ by simp), ?_, ?_, fun i hi => ?_⟩
  · unfold bytesRow
    simp
  · exact Nat.le_add_right _ _
  · have hi' : i < s.data.size := by simpa using hi
    unfold bytesRow
    rw [Array.getElem?_append_left (by simpa using hi'), Array.getElem?_map, Array.getElem?_eq_getElem hi']
    rfl
theorem bytes_new (w : World) (s : ByteArray) : New w (afterBytes w s) := ((Mod.refl _ _).drew).alloc _
theorem ByAt.text {w : World} {g : Nat} {s : List UInt8} (h : ByAt w g s) (n c : Nat) (hn : n = s.length) : (convert 59 9 (.slice (some ⟨g, 0, none⟩) n c)).run Tryz.prog w = .ok (.string ⟨s.toArray⟩) w := by
  subst hn
  refine run_convert_bytes_back w 59 9 5 ⟨g, 0, none⟩ c s Tryz.underlying59 Tryz.underlying5 Tryz.underlying9 (fun j hj => ?_)
  have hadd : (⟨g, 0, none⟩ : Addr).add j = ⟨g, 0 + j, none⟩ := by unfold Addr.add; split <;> simp_all
  rw [hadd, Nat.zero_add]
  exact h.cell hj
theorem newGrown {w w1 w2 : World} {row : Option Nat} (n : New w w1) (g : w1.grownBy w2 row) (h : ∀ k, row = some k → w.heap.size ≤ k) : New w w2 :=
  ⟨g.os.trans n.os, g.tape.trans n.tape, g.output.trans n.output, Nat.le_trans n.size g.size, fun k hk _ => (g.block k (Nat.lt_of_lt_of_le hk n.size) (fun q => by have := h k q.symm; omega)).trans (n.block k hk (fun q => q))⟩
end Go.Proofs.YtecjdppkpfpniaaGreatDoor
