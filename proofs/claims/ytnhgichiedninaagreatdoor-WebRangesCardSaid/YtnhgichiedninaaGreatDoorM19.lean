/-
  Several texts in one, in their build order. A list of files that the call itself makes: how it lies, how a file is appended. Clone of a path. Conditions as told. The walks of copied, bare (of a list without pads). Conditions: the list lies as told, has at most 40 files, and their paths at most eight parts.
-/
import Derived.Test.YtnhgichiedninaaGreatDoorM16
import Derived.Test.YtnhgichiedninaaGreatDoorM18
import Derived.Maps.AppendAt
import Derived.Test.YtnhgichiedninaaGreatDoorM5
namespace Go.Proofs.YtnhgichiedninaaGreatDoor
set_option linter.unusedSimpArgs false
set_option linter.unusedVariables false
open Go.RowKit

structure EntV where
  pa : Option Addr
  pc : Nat
  f : FileV
def EntV.cells (e : EntV) : List Value := [.slice e.pa e.f.path.length e.pc, .int .i64 e.f.len, .bool e.f.pad]
def rowOf (E : List EntV) : List Value := E.flatMap EntV.cells
theorem rowOf_add (E : List EntV) (e : EntV) : rowOf (E ++ [e]) = rowOf E ++ e.cells := by simp [rowOf]
theorem rowOf_at : ∀ (E : List EntV) (i : Nat) (e : EntV), E[i]? = some e → ∀ j, j < 3 → (rowOf E)[i * 3 + j]? = e.cells[j]?
  | [], i, e, h, _, _ => by simp at h
  | x :: r, 0, e, h, j, hj => by
    simp at h
    subst h
    show (x.cells ++ rowOf r)[0 * 3 + j]? = _
    rw [List.getElem?_append_left (by simp [EntV.cells]; omega)]
    simp
  | x :: r, i + 1, e, h, j, hj => by
    have := rowOf_at r i e (by simpa using h) j hj
    show (x.cells ++ rowOf r)[(i + 1) * 3 + j]? = _
    rw [List.getElem?_append_right (by simp [EntV.cells]; omega), ← this]
    congr 1
    simp [EntV.cells]
    omega
/-- The slice v, of the call's own memory from block base on, holds the files E. -/
structure Own (w : World) (base : Nat) (v : Value) (E : List EntV) : Prop where
  row : w.ownsRow base 60 3 v E.length (rowOf E)
  strs : ∀ e ∈ E, StrsAt w e.pa e.pc e.f.path ∧ (-9223372036854775808 ≤ e.f.len ∧ e.f.len ≤ 9223372036854775807)
  far : ∀ e ∈ E, e.f.path = [] ∨ ∃ a, e.pa = some a ∧ some a.block ≠ v.ownBlock ∧ a.block < w.heap.size
theorem Own.nil (w : World) (base : Nat) : Own w base (.slice none 0 0) [] := ⟨World.ownsRow_nil _ _ _ _, by simp, by simp⟩
theorem grown_of_new {w w' : World} (n : New w w') (row : Option Nat) : w.grownBy w' row := ⟨n.os, n.tape, n.output, n.size, fun k hk _ => n.block k hk (fun x => x)⟩
theorem Own.new {w w' : World} {base : Nat} {v : Value} {E : List EntV} (h : Own w base v E) (n : New w w') : Own w' base v E := by
  refine ⟨?_, fun e he => ⟨(h.strs e he).1.new n, (h.strs e he).2⟩, fun e he => (h.far e he).imp id (fun ⟨a, h1, h2, h3⟩ => ⟨a, h1, h2, Nat.lt_of_lt_of_le h3 n.size⟩)⟩
  cases hv : v.ownBlock with
  | none => exact h.row.kept (grown_of_new n none) (.inl hv)
  | some k => exact h.row.kept (grown_of_new n none) (.inr (by rw [hv]; simp))
theorem Mod.of_grown {w w' : World} {row : Option Nat} (h : w.grownBy w' row) : Mod (fun k => some k = row) w w' := ⟨h.os, h.tape, h.output, h.size, fun k hk hn => h.block k hk hn⟩
theorem Own.add {w w' : World} {base : Nat} {v v' : Value} {E : List EntV} {e : EntV} (h : Own w base v E) (hr : w'.ownsRow base 60 3 v' (E.length + 1) (rowOf E ++ e.cells)) (hg : w.grownBy w' v.ownBlock)
    (hl : v'.ownBlock = v.ownBlock ∨ v'.ownBlock = some w.heap.size) (hs : StrsAt w e.pa e.pc e.f.path) (hb : -9223372036854775808 ≤ e.f.len ∧ e.f.len ≤ 9223372036854775807) (hf : e.f.path = [] ∨ ∃ a, e.pa = some a ∧ some a.block ≠ v.ownBlock ∧ a.block < w.heap.size) : Own w' base v' (E ++ [e]) := by
  have hall : ∀ x ∈ E ++ [e], (StrsAt w x.pa x.pc x.f.path ∧ (-9223372036854775808 ≤ x.f.len ∧ x.f.len ≤ 9223372036854775807)) ∧ (x.f.path = [] ∨ ∃ a, x.pa = some a ∧ some a.block ≠ v.ownBlock ∧ a.block < w.heap.size) := by
    intro x hx
    simp only [List.mem_append, List.mem_singleton] at hx
    rcases hx with hx | rfl
    · exact ⟨h.strs x hx, h.far x hx⟩
    · exact ⟨⟨hs, hb⟩, hf⟩
  refine ⟨by rw [rowOf_add]; simpa using hr, fun x hx => ⟨?_, (hall x hx).1.2⟩, fun x hx => (hall x hx).2.imp id (fun ⟨a, h1, g1, g2⟩ => ⟨a, h1, ?_, Nat.lt_of_lt_of_le g2 hg.size⟩)⟩
  · obtain ⟨⟨h1, -⟩, h2⟩ := hall x hx
    refine ⟨h1.room, h1.cap, h1.small, ?_⟩
    rcases h2 with h2 | ⟨a, ha, h2, -⟩
    · exact .inl h2
    · rcases h1.at' with h1 | ⟨b, o, e1, hb, hc⟩
      · exact .inl h1
      · rw [ha] at e1
        cases e1
        exact .inr ⟨b, o, ha, Nat.lt_of_lt_of_le hb hg.size, fun i s hs => hg.cell (hc i s hs) h2⟩
  · rcases hl with hl | hl
    · rw [hl]; exact g1
    · rw [hl]
      intro e
      simp at e
      omega
theorem Own.base {w : World} {base base' : Nat} {v : Value} {E : List EntV} (h : Own w base v E) (hb : base' ≤ base) : Own w base' v E := by
  refine ⟨⟨h.row.1, ?_⟩, h.strs, h.far⟩
  rcases h.row.2 with h1 | ⟨g, cap, cur, e, hbg, rest⟩
  · exact .inl h1
  · exact .inr ⟨g, cap, cur, e, Nat.le_trans hb hbg, rest⟩
theorem Own.files {w : World} {base : Nat} {v : Value} {E : List EntV} (h : Own w base v E) : ∃ a c, v = .slice a E.length c ∧ FilesAt w a c (E.map (·.f)) := by
  have hrow := h.row
  rcases h.row.2 with ⟨rfl, hn⟩ | ⟨g, cap, cur, rfl, hbg, hg, hnc, hcm, hcs, htake⟩
  · have : E = [] := List.eq_nil_of_length_eq_zero hn
    subst this
    exact ⟨none, 0, rfl, by simp, by simp [maxLen], .inl rfl⟩
  · refine ⟨some ⟨g, 0, none⟩, cap, rfl, by simpa using hnc, hcm, .inr ⟨g, 0, rfl, (Array.getElem?_eq_some_iff.1 hg).1, fun i f hf => ?_⟩⟩
    simp only [List.getElem?_map, Option.map_eq_some_iff] at hf
    obtain ⟨e, he, rfl⟩ := hf
    have hm := List.mem_of_getElem? he
    have hcell : ∀ j u, j < 3 → e.cells[j]? = some u → w.cell? ⟨g, 0 + i * 3 + j, none⟩ = some u := by
      intro j u hj hu
      have h1 := h.row.cells (g := g) rfl (i * 3 + j) u (by rw [rowOf_at E i e he j hj]; exact hu)
      rw [add_none] at h1
      simpa [Nat.add_assoc] using h1
    exact ⟨e.pa, e.pc, by simpa using hcell 0 _ (by omega) rfl, by simpa using hcell 1 _ (by omega) rfl, by simpa using hcell 2 _ (by omega) rfl, (h.strs e hm).1, (h.strs e hm).2⟩
theorem owns_strs {w : World} {base : Nat} {v : Value} {p : List ByteArray} (h : w.ownsRow base 9 1 v p.length (p.map Value.string)) (hs : ∀ s ∈ p, s.size ≤ maxLen) : ∃ a c, v = .slice a p.length c ∧ StrsAt w a c p ∧ ∀ x, a = some x → base ≤ x.block ∧ x.block < w.heap.size := by
  rcases h.2 with ⟨rfl, hn⟩ | ⟨g, cap, cur, rfl, hbg, hg, hnc, hcm, hcs, htake⟩
  · have : p = [] := List.eq_nil_of_length_eq_zero hn
    subst this
    exact ⟨none, 0, rfl, ⟨by simp, by simp [maxLen], by simp, .inl rfl⟩, by simp⟩
  · have hlt := (Array.getElem?_eq_some_iff.1 hg).1
    refine ⟨some ⟨g, 0, none⟩, cap, rfl, ⟨hnc, hcm, hs, .inr ⟨g, 0, rfl, hlt, fun i s hi => ?_⟩⟩, fun x hx => ?_⟩
    · have h1 := h.cells (g := g) rfl i (.string s) (by simp [hi])
      rw [add_none] at h1
      exact h1
    · simp at hx
      subst hx
      exact ⟨hbg, hlt⟩
end Go.Proofs.YtnhgichiedninaaGreatDoor

namespace Go.Proofs.YtnhgichiedninaaGreatDoor
set_option linter.unusedSimpArgs false
set_option linter.unusedVariables false
open Go.RowKit

theorem info_file : (Tryz.prog.info? 60).map (fun i => (i.zero, i.size, i.bytes)) = some (some (.agg #[.slice none 0 0, .int .i64 0, .bool false]), 3, 40) := by kernel_rfl
theorem StrsAt.mod2 {S : Nat → Prop} {w w' : World} {a : Option Addr} {c : Nat} {p : List ByteArray} (h : StrsAt w a c p) (hm : Mod S w w') (hs : ∀ x, a = some x → ¬ S x.block) : StrsAt w' a c p := by
  refine ⟨h.room, h.cap, h.small, ?_⟩
  rcases h.at' with h | ⟨b, o, e, hb, hc⟩
  · exact .inl h
  · exact .inr ⟨b, o, e, Nat.lt_of_lt_of_le hb hm.size, fun i s hs' => Mod.cellv hm (hc i s hs') (fun q => hs _ e q)⟩
theorem three_new (w : World) (x y z : Value) (t : TypeId) : ∀ (j : Nat) (u : Value), [x, y, z][j]? = some u → (w.alloc (.cells #[x, y, z] t)).cell? ((⟨w.heap.size, 0, none⟩ : Addr).add j) = some u := by
  intro j u hj
  rw [add_none]
  have hb := Blk.new w #[x, y, z] t
  match j, hj with
  | 0, hj => simp at hj; subst hj; exact hb.cellv 0 rfl
  | 1, hj => simp at hj; subst hj; exact hb.cellv 1 rfl
  | 2, hj => simp at hj; subst hj; exact hb.cellv 2 rfl
  | j + 3, hj => simp at hj
theorem Own.lt {w : World} {base : Nat} {v : Value} {E : List EntV} (h : Own w base v E) (k : Nat) (hk : v.ownBlock = some k) : k < w.heap.size := (h.row.lt k hk).2

theorem New.grown {w w1 w2 : World} {row : Option Nat} (n : New w w1) (g : w1.grownBy w2 row) (h : ∀ k, row = some k → w.heap.size ≤ k) : New w w2 :=
  ⟨g.os.trans n.os, g.tape.trans n.tape, g.output.trans n.output, Nat.le_trans n.size g.size, fun k hk hx => (g.block k (Nat.lt_of_lt_of_le hk n.size) (fun e => by have := h k e.symm; omega)).trans (n.block k hk hx)⟩
theorem copy_new {wr w1 : World} {x y z : Value} {t : TypeId} (n : New (wr.alloc (.cells #[x, y, z] t)) w1) (u : Value) (o : Obj) : New wr ((w1.setCell ⟨wr.heap.size, 0, none⟩ u).alloc o) :=
  (Mod.set (((Mod.refl _ _).alloc _).trans n) _ _ (.inr (Nat.le_refl _))).alloc _

end Go.Proofs.YtnhgichiedninaaGreatDoor
