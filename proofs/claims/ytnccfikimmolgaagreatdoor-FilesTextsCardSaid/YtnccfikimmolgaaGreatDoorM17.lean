/-
  Several texts in one, in their build order. An argument that is a slice of structs (any number of one-cell fields): its cells. Over any program. No condition. A list of files that the call itself makes: how it lies, how a file is appended. Clone of a path. Conditions as told. The walks of copied, bare (of a list without pads). Conditions: the list lies as told, has at most 40 files, and their paths at most eight parts.
-/
import Derived.Test.YtnccfikimmolgaaGreatDoorM1
import Derived.Deep.Slices
import Derived.Deep.Fields
import Derived.ChangeSame
import Derived.ProofKit
import Derived.OpenShut
import Derived.Test.YtnccfikimmolgaaGreatDoorM16
import Derived.Maps.AppendAt
namespace Go.Proofs.YtnccfikimmolgaaGreatDoor
set_option linter.unusedSimpArgs false
set_option linter.unusedVariables false
open Go.ChangeShapes Go.WideShapes Go.Deep Go.RowKit
section
variable {H : Type} {enc : TypeId × Value → H} {P : Program} {w : World} {base : Nat} {spare : Nat → Bool} {held : Bool}
theorem open_slice_fields {t e : TypeId} {fs : Array Field} {fuel : Nat} {cs : List Value} {x : DataW H × List MemPlace} (ht : P.underlying t = some (.slice e)) (he : P.underlying e = some (.struct fs))
    (hone : oneCellFields P fs = true) (hC : P.cellsOf e = fs.size) (h : DataW.trod enc P w base spare held fuel t cs = some x) :
    (cs = [.slice none 0 0] ∧ x = (.nil, [])) ∨
    ∃ (a : Addr) (len cap m : Nat) (D : Nat → DataW H) (Pl : Nat → List MemPlace), cs = [.slice (some a) len cap] ∧ base ≤ a.block ∧ len ≤ cap ∧ cap ≤ maxLen ∧ m = (if spare a.block then cap else len) ∧
      x = (.slice ((List.range len).map D) ((List.range (m - len)).map fun j => D (len + j)), MemPlace.row a (m * fs.size) ++ (List.range m).flatMap Pl) ∧
      ∀ i, i < m → ∃ (ys : List (DataW H × List MemPlace)) (n : Nat), D i = .agg (ys.map (·.1)) ∧ Pl i = ys.flatMap (·.2) ∧ ys.length = fs.size ∧
        ∀ (j : Nat) (f : Field), fs[j]? = some f → ∃ (v : Value) (y : DataW H × List MemPlace), w.cell? (a.add (i * fs.size + j)) = some v ∧ ys[j]? = some y ∧ DataW.trod enc P w base spare held n f.type [v] = some y := by
  rcases open_slice ht h with h0 | ⟨a, len, cap, m, n, D, Pl, hcs, hb, hl, hm, hmm, hx, hi⟩
  · exact .inl h0
  · refine .inr ⟨a, len, cap, m, D, Pl, hcs, hb, hl, hm, hmm, by rw [hC] at hx; exact hx, fun i him => ?_⟩
    obtain ⟨cs', hc, ht'⟩ := hi i him
    rw [hC] at hc
    obtain ⟨ys, n', hn', hy, hlen, hyl, hf⟩ := DataW.trod_struct he ht'
    obtain ⟨_, hcl, hat⟩ := World.cells?_some hc
    simp only [Prod.mk.injEq] at hy
    refine ⟨ys, n', hy.1, hy.2, hyl, fun j f hj => ?_⟩
    obtain ⟨ho, hk⟩ := hone_of hone j f hj
    have hjl : j < fs.size := (Array.getElem?_eq_some_iff.1 hj).1
    have hcell := hat j hjl
    have hv : cs'[j]? = some (cs'[j]'(by omega)) := List.getElem?_eq_getElem (by omega)
    have h1 := hf j f hj
    rw [ho, hk] at h1
    have hone' : (cs'.drop j).take 1 = [cs'[j]'(by omega)] := by
      rw [List.drop_eq_getElem_cons (by omega)]
      rfl
    rw [hone'] at h1
    have hys : ys[j]? = some (ys[j]'(by omega)) := List.getElem?_eq_getElem (by omega)
    refine ⟨_, _, ?_, hys, h1.trans hys⟩
    rw [← Go.Deep.add_add, hcell, hv]
end
/-- As many things as there are places, one for each place. -/
theorem list_of {α : Type} {p : Nat → α → Prop} (n : Nat) (h : ∀ i, i < n → ∃ x, p i x) : ∃ l : List α, l.length = n ∧ ∀ i x, l[i]? = some x → p i x := by
  induction n with
  | zero => exact ⟨[], rfl, fun i x hx => by simp at hx⟩
  | succ n ih =>
    obtain ⟨l, hl, hp⟩ := ih (fun i hi => h i (by omega))
    obtain ⟨x, hx⟩ := h n (by omega)
    refine ⟨l ++ [x], by simp [hl], fun i y hy => ?_⟩
    by_cases hi : i < n
    · rw [List.getElem?_append_left (by omega)] at hy
      exact hp i y hy
    · have hlt : i < (l ++ [x]).length := (List.getElem?_eq_some_iff.1 hy).1
      simp at hlt
      have : i = n := by omega
      subst this
      rw [List.getElem?_append_right (by omega), hl] at hy
      simp at hy
      exact hy ▸ hx
theorem cell_spot {w : World} {a : Addr} {v : Value} (h : w.cell? a = some v) : a.spot = none := by
  unfold World.cell? at h
  split at h
  · split at h
    · cases h
    · next hs => cases hq : a.spot <;> simp_all
  · cases h
theorem add_none (b off i : Nat) : (⟨b, off, none⟩ : Addr).add i = ⟨b, off + i, none⟩ := by
  unfold Addr.add
  split
  · next h => subst h; rfl
  · rfl
end Go.Proofs.YtnccfikimmolgaaGreatDoor

namespace Go.Proofs.YtnccfikimmolgaaGreatDoor
set_option linter.unusedSimpArgs false
set_option linter.unusedVariables false
open Go.RowKit

structure EntV where
  pa : Option Addr
  pc : Nat
  f : FileV
def EntV.cells (e : EntV) : List Value := [.slice e.pa e.f.path.length e.pc, .int .i64 e.f.len, .bool e.f.pad]
def rowOf (E : List EntV) : List Value := E.flatMap EntV.cells
theorem rowOf_add (E : List EntV) (e : EntV) : rowOf (E ++ [e]) = rowOf E ++ e.cells := by simp [rowOf]
theorem rowOf_at : ∀ (E : List EntV) (i : Nat) (e : EntV), E[i]? = some e → ∀ j, j < 3 → (rowOf E)[i * 3 + j]? = e.cells[j]?
  | [], i, e, h, _, _ => by simp at h
  | x :: r, 0, e, h, j, hj => by
    simp at h
    subst h
    show (x.cells ++ rowOf r)[0 * 3 + j]? = _
    rw [List.getElem?_append_left (by simp [EntV.cells]; omega)]
    simp
  | x :: r, i + 1, e, h, j, hj => by
    have := rowOf_at r i e (by simpa using h) j hj
    show (x.cells ++ rowOf r)[(i + 1) * 3 + j]? = _
    rw [List.getElem?_append_right (by simp [EntV.cells]; omega), ← this]
    congr 1
    simp [EntV.cells]
    omega
/-- The slice v, of the call's own memory from block base on, holds the files E. -/
structure Own (w : World) (base : Nat) (v : Value) (E : List EntV) : Prop where
  row : w.ownsRow base 51 3 v E.length (rowOf E)
  strs : ∀ e ∈ E, StrsAt w e.pa e.pc e.f.path ∧ (-9223372036854775808 ≤ e.f.len ∧ e.f.len ≤ 9223372036854775807)
  far : ∀ e ∈ E, e.f.path = [] ∨ ∃ a, e.pa = some a ∧ some a.block ≠ v.ownBlock ∧ a.block < w.heap.size
theorem Own.nil (w : World) (base : Nat) : Own w base (.slice none 0 0) [] := ⟨World.ownsRow_nil _ _ _ _, by simp, by simp⟩
theorem grown_of_new {w w' : World} (n : New w w') (row : Option Nat) : w.grownBy w' row := ⟨n.os, n.tape, n.output, n.size, fun k hk _ => n.block k hk (fun x => x)⟩
theorem Own.new {w w' : World} {base : Nat} {v : Value} {E : List EntV} (h : Own w base v E) (n : New w w') : Own w' base v E := by
  refine ⟨?_, fun e he => ⟨(h.strs e he).1.new n, (h.strs e he).2⟩, fun e he => (h.far e he).imp id (fun ⟨a, h1, h2, h3⟩ => ⟨a, h1, h2, Nat.lt_of_lt_of_le h3 n.size⟩)⟩
  cases hv : v.ownBlock with
  | none => exact h.row.kept (grown_of_new n none) (.inl hv)
  | some k => exact h.row.kept (grown_of_new n none) (.inr (by rw [hv]; simp))
theorem Mod.of_grown {w w' : World} {row : Option Nat} (h : w.grownBy w' row) : Mod (fun k => some k = row) w w' := ⟨h.os, h.tape, h.output, h.size, fun k hk hn => h.block k hk hn⟩
theorem Own.add {w w' : World} {base : Nat} {v v' : Value} {E : List EntV} {e : EntV} (h : Own w base v E) (hr : w'.ownsRow base 51 3 v' (E.length + 1) (rowOf E ++ e.cells)) (hg : w.grownBy w' v.ownBlock)
    (hl : v'.ownBlock = v.ownBlock ∨ v'.ownBlock = some w.heap.size) (hs : StrsAt w e.pa e.pc e.f.path) (hb : -9223372036854775808 ≤ e.f.len ∧ e.f.len ≤ 9223372036854775807) (hf : e.f.path = [] ∨ ∃ a, e.pa = some a ∧ some a.block ≠ v.ownBlock ∧ a.block < w.heap.size) : Own w' base v' (E ++ [e]) := by
  have hall : ∀ x ∈ E ++ [e], (StrsAt w x.pa x.pc x.f.path ∧ (-9223372036854775808 ≤ x.f.len ∧ x.f.len ≤ 9223372036854775807)) ∧ (x.f.path = [] ∨ ∃ a, x.pa = some a ∧ some a.block ≠ v.ownBlock ∧ a.block < w.heap.size) := by
    intro x hx
    simp only [List.mem_append, List.mem_singleton] at hx
    rcases hx with hx | rfl
    · exact ⟨h.strs x hx, h.far x hx⟩
    · exact ⟨⟨hs, hb⟩, hf⟩
  refine ⟨by rw [rowOf_add]; simpa using hr, fun x hx => ⟨?_, (hall x hx).1.2⟩, fun x hx => (hall x hx).2.imp id (fun ⟨a, h1, g1, g2⟩ => ⟨a, h1, ?_, Nat.lt_of_lt_of_le g2 hg.size⟩)⟩
  · obtain ⟨⟨h1, -⟩, h2⟩ := hall x hx
    refine ⟨h1.room, h1.cap, h1.small, ?_⟩
    rcases h2 with h2 | ⟨a, ha, h2, -⟩
    · exact .inl h2
    · rcases h1.at' with h1 | ⟨b, o, e1, hb, hc⟩
      · exact .inl h1
      · rw [ha] at e1
        cases e1
        exact .inr ⟨b, o, ha, Nat.lt_of_lt_of_le hb hg.size, fun i s hs => hg.cell (hc i s hs) h2⟩
  · rcases hl with hl | hl
    · rw [hl]; exact g1
    · rw [hl]
      intro e
      simp at e
      omega
theorem Own.base {w : World} {base base' : Nat} {v : Value} {E : List EntV} (h : Own w base v E) (hb : base' ≤ base) : Own w base' v E := by
  refine ⟨⟨h.row.1, ?_⟩, h.strs, h.far⟩
  rcases h.row.2 with h1 | ⟨g, cap, cur, e, hbg, rest⟩
  · exact .inl h1
  · exact .inr ⟨g, cap, cur, e, Nat.le_trans hb hbg, rest⟩
theorem Own.files {w : World} {base : Nat} {v : Value} {E : List EntV} (h : Own w base v E) : ∃ a c, v = .slice a E.length c ∧ FilesAt w a c (E.map (·.f)) := by
  have hrow := h.row
  rcases h.row.2 with ⟨rfl, hn⟩ | ⟨g, cap, cur, rfl, hbg, hg, hnc, hcm, hcs, htake⟩
  · have : E = [] := List.eq_nil_of_length_eq_zero hn
    subst this
    exact ⟨none, 0, rfl, by simp, by simp [maxLen], .inl rfl⟩
  · refine ⟨some ⟨g, 0, none⟩, cap, rfl, by simpa using hnc, hcm, .inr ⟨g, 0, rfl, (Array.getElem?_eq_some_iff.1 hg).1, fun i f hf => ?_⟩⟩
    simp only [List.getElem?_map, Option.map_eq_some_iff] at hf
    obtain ⟨e, he, rfl⟩ := hf
    have hm := List.mem_of_getElem? he
    have hcell : ∀ j u, j < 3 → e.cells[j]? = some u → w.cell? ⟨g, 0 + i * 3 + j, none⟩ = some u := by
      intro j u hj hu
      have h1 := h.row.cells (g := g) rfl (i * 3 + j) u (by rw [rowOf_at E i e he j hj]; exact hu)
      rw [add_none] at h1
      simpa [Nat.add_assoc] using h1
    exact ⟨e.pa, e.pc, by simpa using hcell 0 _ (by omega) rfl, by simpa using hcell 1 _ (by omega) rfl, by simpa using hcell 2 _ (by omega) rfl, (h.strs e hm).1, (h.strs e hm).2⟩
theorem owns_strs {w : World} {base : Nat} {v : Value} {p : List ByteArray} (h : w.ownsRow base 9 1 v p.length (p.map Value.string)) (hs : ∀ s ∈ p, s.size ≤ maxLen) : ∃ a c, v = .slice a p.length c ∧ StrsAt w a c p ∧ ∀ x, a = some x → base ≤ x.block ∧ x.block < w.heap.size := by
  rcases h.2 with ⟨rfl, hn⟩ | ⟨g, cap, cur, rfl, hbg, hg, hnc, hcm, hcs, htake⟩
  · have : p = [] := List.eq_nil_of_length_eq_zero hn
    subst this
    exact ⟨none, 0, rfl, ⟨by simp, by simp [maxLen], by simp, .inl rfl⟩, by simp⟩
  · have hlt := (Array.getElem?_eq_some_iff.1 hg).1
    refine ⟨some ⟨g, 0, none⟩, cap, rfl, ⟨hnc, hcm, hs, .inr ⟨g, 0, rfl, hlt, fun i s hi => ?_⟩⟩, fun x hx => ?_⟩
    · have h1 := h.cells (g := g) rfl i (.string s) (by simp [hi])
      rw [add_none] at h1
      exact h1
    · simp at hx
      subst hx
      exact ⟨hbg, hlt⟩
theorem clone_any (a : Option Addr) (c : Nat) (p : List ByteArray) (w : World) (h : StrsAt w a c p) (hl : p.length ≤ 8) :
    Calls Tryz.prog 134 #[.slice a p.length c] w fun e w' => ∃ a' c', e = .returned (.slice a' p.length c') ∧ StrsAt w' a' c' p ∧ (∀ x, a' = some x → w.heap.size ≤ x.block ∧ x.block < w'.heap.size) ∧ New w w' := by
  have hsm := h.small
  cases a with
  | none =>
    have hp : p = [] := by
      rcases h.at' with h | ⟨b, o, e, _⟩
      · exact h
      · cases e
    subst hp
    refine (Tryz.slices_Clone_string_nil 0 c w).mono ?_
    rintro e w' ⟨rfl, rfl⟩
    exact ⟨none, 0, rfl, ⟨by simp, by simp [maxLen], by simp, .inl rfl⟩, by simp, Mod.refl _ _⟩
  | some x =>
    rcases h.at' with hp | ⟨b, o, e, hb, hc⟩
    · subst hp
      refine (Tryz.slices_Clone_string_zero x c w).mono ?_
      rintro e w' ⟨v', rfl, h1, -, h2⟩
      obtain ⟨a', c', rfl, q1, q2⟩ := owns_strs (p := []) h1 (by simp)
      exact ⟨a', c', rfl, q1, q2, New.of_below h2⟩
    · cases e
      refine (Tryz.slices_Clone_string b o p.length c p w (Nat.le_refl _) (by omega) (fun j hj => by
        have := hc j p[j] (List.getElem?_eq_getElem hj)
        rw [this]
        simp [List.getD, List.getElem?_eq_getElem hj])).mono ?_
      rintro e w' ⟨v', rfl, h1, -, h2⟩
      rw [List.take_length] at h1
      obtain ⟨a', c', rfl, q1, q2⟩ := owns_strs h1 hsm
      exact ⟨a', c', rfl, q1, q2, New.of_below h2⟩
end Go.Proofs.YtnccfikimmolgaaGreatDoor

namespace Go.Proofs.YtnccfikimmolgaaGreatDoor
set_option linter.unusedSimpArgs false
set_option linter.unusedVariables false
open Go.RowKit

theorem info_file : (Tryz.prog.info? 51).map (fun i => (i.zero, i.size, i.bytes)) = some (some (.agg #[.slice none 0 0, .int .i64 0, .bool false]), 3, 40) := by kernel_rfl
theorem StrsAt.mod2 {S : Nat → Prop} {w w' : World} {a : Option Addr} {c : Nat} {p : List ByteArray} (h : StrsAt w a c p) (hm : Mod S w w') (hs : ∀ x, a = some x → ¬ S x.block) : StrsAt w' a c p := by
  refine ⟨h.room, h.cap, h.small, ?_⟩
  rcases h.at' with h | ⟨b, o, e, hb, hc⟩
  · exact .inl h
  · exact .inr ⟨b, o, e, Nat.lt_of_lt_of_le hb hm.size, fun i s hs' => Mod.cellv hm (hc i s hs') (fun q => hs _ e q)⟩
theorem three_new (w : World) (x y z : Value) (t : TypeId) : ∀ (j : Nat) (u : Value), [x, y, z][j]? = some u → (w.alloc (.cells #[x, y, z] t)).cell? ((⟨w.heap.size, 0, none⟩ : Addr).add j) = some u := by
  intro j u hj
  rw [add_none]
  have hb := Blk.new w #[x, y, z] t
  match j, hj with
  | 0, hj => simp at hj; subst hj; exact hb.cellv 0 rfl
  | 1, hj => simp at hj; subst hj; exact hb.cellv 1 rfl
  | 2, hj => simp at hj; subst hj; exact hb.cellv 2 rfl
  | j + 3, hj => simp at hj
theorem Own.lt {w : World} {base : Nat} {v : Value} {E : List EntV} (h : Own w base v E) (k : Nat) (hk : v.ownBlock = some k) : k < w.heap.size := (h.row.lt k hk).2

theorem New.grown {w w1 w2 : World} {row : Option Nat} (n : New w w1) (g : w1.grownBy w2 row) (h : ∀ k, row = some k → w.heap.size ≤ k) : New w w2 :=
  ⟨g.os.trans n.os, g.tape.trans n.tape, g.output.trans n.output, Nat.le_trans n.size g.size, fun k hk hx => (g.block k (Nat.lt_of_lt_of_le hk n.size) (fun e => by have := h k e.symm; omega)).trans (n.block k hk hx)⟩
theorem copy_new {wr w1 : World} {x y z : Value} {t : TypeId} (n : New (wr.alloc (.cells #[x, y, z] t)) w1) (u : Value) (o : Obj) : New wr ((w1.setCell ⟨wr.heap.size, 0, none⟩ u).alloc o) :=
  (Mod.set (((Mod.refl _ _).alloc _).trans n) _ _ (.inr (Nat.le_refl _))).alloc _

set_option maxRecDepth 100000 in
set_option maxHeartbeats 4000000 in
theorem copied_any (a : Option Addr) (c : Nat) (l : List FileV) (w : World) (h : FilesAt w a c l) (hl : l.length ≤ 40) (hp : ∀ f ∈ l, f.path.length ≤ 8) :
    Calls Tryz.prog 107 #[.slice a l.length c] w fun e w' => ∃ v E, e = .returned v ∧ E.map (·.f) = l ∧ Own w' w.heap.size v E ∧ New w w' := by
  have hm1 := h.room; have hm2 := h.cap
  unfold maxLen at hm2
  obtain ⟨i0, hi, hz0, hz1, hz2⟩ := info_parts info_file
  by_cases hz : 0 < l.length
  · obtain ⟨b1, o1, rfl, hb1, hc1⟩ := h.get hz
    have HC1 := hid hc1
    have HPL := hid hp
    clear h hc1 hp
    go_enter Tryz.func107, Tryz.ntmps107
    go_wp2
    go_loopw [8, 3] (fun i out wr => ∃ (k : Nat) (E : List EntV) (o : Value), i = .int .i64 k ∧ o = out ∧ k ≤ l.length ∧ E.map (·.f) = l.take k ∧ Own wr w.heap.size o E ∧ New w wr) (fun i _ _ => l.length - (intOf i).toNat)
    case atStart => exact ⟨0, [], _, rfl, rfl, by omega, rfl, Own.nil _ _, Mod.refl _ _⟩
    case round =>
      obtain ⟨k, E, o, rfl, rfl, hk, hE, hO, hn⟩ := hrel
      have HN := hid hn
      have HE := hid hE
      have HO := hid hO
      have hsz := hn.size
      have HEL := hid (show E.length = k by have := congrArg List.length hE; simp at this; omega)
      clear hE hO
      by_cases hlt : k < l.length
      · obtain ⟨pa, pc, g0, g1, g2, hst, hlen⟩ := (HC1.out k hlt).new hn
        clear hn
        have HTK := hid (show l.take (k + 1) = l.take k ++ [l[k]] by rw [List.take_add_one, List.getElem?_eq_getElem hlt]; rfl)
        have hpl := HPL.out _ (List.getElem_mem hlt)
        obtain ⟨f, hf⟩ : ∃ f, f = l[k] := ⟨_, rfl⟩
        rw [← hf] at g0 g1 g2 hst hlen HTK hpl
        clear hf
        have HCL := hid (fun W (n : New wr W) => clone_any pa pc f.path W (hst.new n) hpl)
        have HLEN := hid hlen
        clear hst hlen hpl
        go_wp2_with (first | (go_at_call 134; refine (HCL.out _ ?_).mono ?_; (focus (exact ((Mod.refl _ _).alloc _))); rintro e w1 ⟨a', c', rfl, hs1, hf1, n1⟩; have N1 := hid n1; have S1 := hid hs1; have F1 := hid hf1; obtain ⟨b0, b1, b2, b3, b4⟩ := Blk.file (f := f) (pa := pa) (pc := pc) (n1.blk (Blk.new wr #[.slice pa f.path.length pc, .int .i64 f.len, .bool f.pad] 51)); have bf := b3 0; clear n1 hs1 hf1 b3) | (at_builtin; refine wpList_append_own_at _ rfl _ _ 22 rfl w.heap.size 51 i0 _ 3 40 Tryz.underlying22 hi hz0 hz1 hz2 rfl (by decide) o k (rowOf E) rfl ?ow ⟨w1.heap.size, 0, none⟩ 1 1 [.slice a' f.path.length c', .int .i64 f.len, .bool f.pad] rfl rfl ?hn ?h1 ?h63 ?hby ?hba ?_))
        case ow => exact HEL.out ▸ (HO.out.new (copy_new N1.out _ _)).row
        case hn =>
          have := three_new (w1.setCell ⟨wr.heap.size, 0, none⟩ (.slice a' f.path.length c')) (.slice a' f.path.length c') (.int .i64 f.len) (.bool f.pad) 51
          simpa using this
        case h1 => intro u hu; simp at hu; rcases hu with rfl | rfl | rfl <;> rfl
        case h63 => unfold maxLen; omega
        case hby => omega
        case hba => have := (copy_new N1.out (.slice a' f.path.length c') (.cells #[.slice a' f.path.length c', .int .i64 f.len, .bool f.pad] 51)).size; omega
        intro o' w3 r3 g3 _ l3
        have HNW := copy_new N1.out (.slice a' f.path.length c') (.cells #[.slice a' f.path.length c', .int .i64 f.len, .bool f.pad] 51)
        have hfar := F1.out
        have hO3 : Own w3 w.heap.size o' (E ++ [⟨a', c', f⟩]) := by
          refine Own.add (e := ⟨a', c', f⟩) (HO.out.new HNW) (by rw [HEL.out]; exact r3) g3 (by simpa using l3) ?_ HLEN.out ?_
          · refine (S1.out.mod2 (S := fun j => j = wr.heap.size) ?_ (fun x hx e => ?_)).alloc _
            · exact Mod.set (Mod.refl _ _) _ _ (.inl rfl)
            · have := (hfar x hx).1
              simp at this
              omega
          · rcases S1.out.at' with q | ⟨b, y, q, -, -⟩
            · exact .inl q
            · have h1 := (hfar _ q).1
              have h2 := (hfar _ q).2
              simp at h1 h2
              refine .inr ⟨_, q, fun e => ?_, by simp; omega⟩
              have := HO.out.lt _ e.symm
              simp at this
              omega
        have HO3 := hid hO3
        have HN3 : Hid (New w w3) := hid (New.grown (HN.out.trans HNW) g3 (fun j hj => (HO.out.row.lt j hj).1))
        clear hO3 HNW r3 g3 l3 hfar
        go_wp2
        exact ⟨⟨k + 1, E ++ [⟨a', c', f⟩], _, by simp, rfl, by omega, by rw [HTK.out, List.map_append, HE.out]; rfl, HO3.out, HN3.out⟩, by simp [intOf]; omega⟩
      · have hkl : l.take k = l := List.take_of_length_le (by omega)
        rw [hkl] at HE
        clear hkl hn
        go_wp2
        go_ret
        exact ⟨_, E, rfl, HE.out, HO.out, HN.out⟩
  · obtain rfl : l = [] := List.eq_nil_of_length_eq_zero (by omega)
    clear h hp
    go_enter Tryz.func107, Tryz.ntmps107
    go_wp2
    refine wp_loop_rounds 1 ?_
    rw [rounds_succ]
    go_wp2
    go_ret
    exact ⟨_, [], rfl, rfl, Own.nil _ _, Mod.refl _ _⟩
end Go.Proofs.YtnccfikimmolgaaGreatDoor
