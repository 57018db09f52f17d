/-
  Several texts in one, in their build order. Lists of numbers: how they lie, those that a call makes, sorted, each once. Conditions: as they stand.
-/
import Derived.Test.YtnccfikimmolgaaGreatDoorM47
import Derived.Test.YtnccfikimmolgaaGreatDoorM3
import Derived.Sort.OwnSortedInts
import Derived.Lib.RowBridge
namespace Go.Proofs.YtnccfikimmolgaaGreatDoor
set_option linter.unusedSimpArgs false
set_option linter.unusedVariables false
open Go.RowKit Go.Shelf Go.Sort

/-- The slice of length xs.length and capacity c at a holds the numbers xs. -/
structure IntsAt (w : World) (a : Option Addr) (c : Nat) (xs : List Int) : Prop where
  room : xs.length ≤ c
  cap : c ≤ maxLen
  at' : xs = [] ∨ ∃ b o, a = some ⟨b, o, none⟩ ∧ b < w.heap.size ∧ ∀ (i : Nat) x, xs[i]? = some x → w.cell? ⟨b, o + i, none⟩ = some (.int .i64 x)
theorem IntsAt.new {w w' : World} {a : Option Addr} {c : Nat} {xs : List Int} (h : IntsAt w a c xs) (hn : New w w') : IntsAt w' a c xs := by
  refine ⟨h.room, h.cap, ?_⟩
  rcases h.at' with h | ⟨b, o, e, hb, hc⟩
  · exact .inl h
  · exact .inr ⟨b, o, e, Nat.lt_of_lt_of_le hb hn.size, fun i s hs => hn.cellv (hc i s hs)⟩
theorem IntsAt.get {w : World} {a : Option Addr} {c : Nat} {xs : List Int} (h : IntsAt w a c xs) (hp : 0 < xs.length) : ∃ b o, a = some ⟨b, o, none⟩ ∧ b < w.heap.size ∧ ∀ (i : Nat) (hi : i < xs.length), w.cell? ⟨b, o + i, none⟩ = some (.int .i64 xs[i]) := by
  rcases h.at' with h | ⟨b, o, e, hb, hc⟩
  · simp [h] at hp
  · exact ⟨b, o, e, hb, fun i hi => hc i _ (List.getElem?_eq_getElem hi)⟩
theorem IntsAt.nil (w : World) : IntsAt w none 0 [] := ⟨by simp, by simp [maxLen], .inl rfl⟩
/-- The value v is a list of numbers that the call made. -/
def OwnI (w : World) (base : Nat) (v : Value) (xs : List Int) : Prop := w.ownsRow base 3 1 v xs.length (xs.map (Value.int .i64))
theorem OwnI.nil (w : World) (base : Nat) : OwnI w base (.slice none 0 0) [] := World.ownsRow_nil _ _ _ _
theorem OwnI.new {w w' : World} {base : Nat} {v : Value} {xs : List Int} (h : OwnI w base v xs) (hn : New w w') : OwnI w' base v xs := by
  refine World.ownsRow.kept h (row := none) ⟨hn.os, hn.tape, hn.output, hn.size, fun k hk _ => hn.block k hk (fun x => x)⟩ ?_
  cases e : v.ownBlock with
  | none => exact .inl rfl
  | some b => exact .inr (by simp)
theorem OwnI.form {w : World} {base : Nat} {v : Value} {xs : List Int} (h : OwnI w base v xs) : (v = .slice none 0 0 ∧ xs = []) ∨ ∃ g cap cur, v = .slice (some ⟨g, 0, none⟩) xs.length cap ∧ base ≤ g ∧ w.heap[g]? = some (.cells cur 3 (0, 0)) ∧ xs.length ≤ cap ∧ cap ≤ maxLen ∧ cur.size = cap * 1 ∧ cur.toList.take xs.length = xs.map (Value.int .i64) := by
  rcases h.2 with ⟨e, h0⟩ | ⟨g, cap, cur, e, hb, hg, h1, h2, h3, h4⟩
  · exact .inl ⟨e, List.eq_nil_of_length_eq_zero h0⟩
  · exact .inr ⟨g, cap, cur, e, hb, hg, h1, h2, h3, by rw [Nat.mul_one] at h4; exact h4⟩
theorem OwnI.ints {w : World} {base : Nat} {v : Value} {xs : List Int} (h : OwnI w base v xs) : ∃ a c, v = .slice a xs.length c ∧ IntsAt w a c xs := by
  rcases h.form with ⟨rfl, rfl⟩ | ⟨g, cap, cur, rfl, hb, hg, h1, h2, h3, h4⟩
  · exact ⟨none, 0, rfl, IntsAt.nil w⟩
  · refine ⟨_, _, rfl, h1, h2, .inr ⟨g, 0, rfl, (Array.getElem?_eq_some_iff.1 hg).1, fun i x hx => ?_⟩⟩
    have hi := (List.getElem?_eq_some_iff.1 hx).1
    have := (holds_of_blockI hg h4 i (by simpa using hi)).1
    rw [this]
    have e := (List.getElem?_eq_some_iff.1 hx).2
    simp [hi, e]
theorem IntsAt.take {w : World} {a : Option Addr} {c : Nat} {xs : List Int} (h : IntsAt w a c xs) (k : Nat) : IntsAt w a c (xs.take k) := by
  refine ⟨by have := h.room; simp; omega, h.cap, ?_⟩
  rcases h.at' with h | ⟨b, o, e, hb, hc⟩
  · exact .inl (by simp [h])
  · refine .inr ⟨b, o, e, hb, fun i f hf => hc i f ?_⟩
    rw [List.getElem?_take] at hf
    split at hf
    · exact hf
    · cases hf
theorem mod_grown {w w' : World} {base g : Nat} (h : w.grownBy w' (some g)) (hb : base ≤ g) : Mod (fun k => base ≤ k) w w' :=
  ⟨h.os, h.tape, h.output, h.size, fun k hk hn => h.block k hk (fun e => hn (by cases e; exact hb))⟩
theorem sort_any (base : Nat) (v : Value) (xs : List Int) (w : World) (h : OwnI w base v xs) (hl : xs.length < 4611686018427387904) :
    Calls Tryz.prog 35 #[v] w fun e w' => e = .returned (.tuple #[]) ∧ OwnI w' base v (xs.mergeSort fun x y => decide (x ≤ y)) ∧ Mod (fun k => base ≤ k) w w' := by
  rcases h.form with ⟨rfl, rfl⟩ | ⟨g, cap, cur, rfl, hb, hg, h1, h2, h3, h4⟩
  · refine (Tryz.slices_Sort_int_none none 0 w).mono ?_
    rintro e w' ⟨rfl, rfl⟩
    exact ⟨rfl, by simpa using h, Mod.refl _ _⟩
  · refine (Tryz.slices_Sort_int g 0 cap xs w (holds_of_blockI hg h4) (Array.getElem?_eq_some_iff.1 hg).1 hl).mono ?_
    rintro e w' ⟨rfl, n, os, rfl⟩
    refine ⟨rfl, ?_, mod_grown (grownBy_sortedI _) hb⟩
    have hlen : (xs.mergeSort fun x y => decide (x ≤ y)).length = xs.length := List.length_mergeSort _
    have := ownsRow_sortedI (w := w) (base := base) (g := g) (cap := cap) (n := n) (os := os) (ss := xs) (ts := xs.mergeSort fun x y => decide (x ≤ y)) hlen hb hg h1 h2 h3
    unfold OwnI
    rw [hlen]
    exact this
theorem compact_any (base : Nat) (v : Value) (xs : List Int) (w : World) (h : OwnI w base v xs) (hl : xs.length < 4611686018427387904) :
    Calls Tryz.prog 36 #[v] w fun e w' => (∃ a c, e = .returned (.slice a (Lib.compact xs).length c) ∧ IntsAt w' a c (Lib.compact xs)) ∧ Mod (fun k => base ≤ k) w w' := by
  rcases h.form with ⟨rfl, rfl⟩ | ⟨g, cap, cur, rfl, hb, hg, h1, h2, h3, h4⟩
  · refine (Tryz.slices_Compact_int_empty none 0 w).mono ?_
    rintro e w' ⟨rfl, rfl⟩
    exact ⟨⟨none, 0, rfl, IntsAt.nil _⟩, Mod.refl _ _⟩
  · refine (Tryz.slices_Compact_int g 0 cap xs w (holds_of_blockI hg h4) (by omega) h1).mono ?_
    rintro e w' ⟨rfl, q, rfl⟩
    have hcl := Lib.compact_length_le xs
    have hlen : (Lib.compact xs ++ List.replicate (xs.length - (Lib.compact xs).length) 0).length = xs.length := by simp; omega
    have := ownsRow_sortedI (w := w) (base := base) (g := g) (cap := cap) (n := q) (os := #[]) (ss := xs) (ts := Lib.compact xs ++ List.replicate (xs.length - (Lib.compact xs).length) 0) hlen hb hg h1 h2 h3
    rw [Sort.grow_empty] at this
    refine ⟨⟨_, _, rfl, ?_⟩, ?_⟩
    · have o2 : OwnI (putRow (Value.int .i64) (Sort.ahead w q) g 0 (Lib.compact xs ++ List.replicate (xs.length - (Lib.compact xs).length) 0).toArray) base (.slice (some ⟨g, 0, none⟩) (Lib.compact xs ++ List.replicate (xs.length - (Lib.compact xs).length) 0).length cap) (Lib.compact xs ++ List.replicate (xs.length - (Lib.compact xs).length) 0) := by
        unfold OwnI
        rw [hlen]
        exact this
      obtain ⟨a, c, e, hi⟩ := o2.ints
      cases e
      have := hi.take (Lib.compact xs).length
      rw [List.take_left'  rfl] at this
      exact this
    · have := mod_grown (grownBy_sortedI (w := w) (g := g) (n := q) (os := #[]) (Lib.compact xs ++ List.replicate (xs.length - (Lib.compact xs).length) 0).toArray) hb
      rw [Sort.grow_empty] at this
      exact this
theorem info_int : (Tryz.prog.info? 3).map (fun i => (i.zero, i.size, i.bytes)) = some (some (.int .i64 0), 1, 8) := by kernel_rfl
end Go.Proofs.YtnccfikimmolgaaGreatDoor
