/-
  Several texts in one, in their build order. The walk of slices.DeleteFunc at files, with bare's closure: the pads go. Condition: the list is of the call's own memory. The walks of Align (a valid list without pads), the law's page, awake. Condition: the library's table is as laid. The walks of same (package files) and Same (the reference): whether two lists are one. Conditions: both lists lie as told. The walks of Bare, Align, Aligned of package files, for every list. Conditions: the list lies as told; the library's table is as laid. The walks of the reference's bare and padded. Conditions: the list lies as told, has at most 40 files, and their paths at most eight parts and no less than one. The walk of the reference's padded. Condition: what its bare answers. The walks of the reference's Same, check, Bare, Align, Aligned, for every list. Conditions: the lists lie as told. The walks of the reference's check, Bare, Align, Aligned, for every list. Conditions: the list lies as told.
-/
import Derived.Test.YtnhgichiedninaaGreatDoorM28
import Derived.Laws.CopyRow
namespace Go.Proofs.YtnhgichiedninaaGreatDoor
set_option linter.unusedSimpArgs false
set_option linter.unusedVariables false
open Go.RowKit

theorem rowOf_len : ∀ (E : List EntV), (rowOf E).length = E.length * 3
  | [] => rfl
  | x :: r => by
    have := rowOf_len r
    show (x.cells ++ rowOf r).length = _
    simp [EntV.cells, this]
    omega
theorem rowOf_set : ∀ (E : List EntV) (i : Nat) (e : EntV), i < E.length → rowOf (E.set i e) = (((rowOf E).set (i * 3) (.slice e.pa e.f.path.length e.pc)).set (i * 3 + 1) (.int .i64 e.f.len)).set (i * 3 + 2) (.bool e.f.pad)
  | [], i, e, h => by simp at h
  | x :: r, 0, e, h => by
    show e.cells ++ rowOf r = (((x.cells ++ rowOf r).set 0 _).set 1 _).set 2 _
    simp [EntV.cells]
  | x :: r, i + 1, e, h => by
    have := rowOf_set r i e (by simpa using h)
    show x.cells ++ rowOf (r.set i e) = (((x.cells ++ rowOf r).set ((i + 1) * 3) _).set ((i + 1) * 3 + 1) _).set ((i + 1) * 3 + 2) _
    rw [this]
    have e3 : (i + 1) * 3 = i * 3 + 3 := by omega
    rw [e3]
    simp [EntV.cells]
/-- An element is stored over another one. -/
theorem Own.put {w : World} {base g n cap : Nat} {E : List EntV} (h : Own w base (.slice (some ⟨g, 0, none⟩) n cap) E) (i : Nat) (e : EntV) (hi : i < E.length) (he : e ∈ E) :
    Own (((w.setCell ⟨g, i * 3, none⟩ (.slice e.pa e.f.path.length e.pc)).setCell ⟨g, i * 3 + 1, none⟩ (.int .i64 e.f.len)).setCell ⟨g, i * 3 + 2, none⟩ (.bool e.f.pad)) base (.slice (some ⟨g, 0, none⟩) n cap) (E.set i e) := by
  have hmem : ∀ x ∈ E.set i e, x ∈ E := fun x hx => by
    rcases List.mem_or_eq_of_mem_set hx with hx | rfl
    · exact hx
    · exact he
  have hm : Mod (· = g) w (((w.setCell ⟨g, i * 3, none⟩ (.slice e.pa e.f.path.length e.pc)).setCell ⟨g, i * 3 + 1, none⟩ (.int .i64 e.f.len)).setCell ⟨g, i * 3 + 2, none⟩ (.bool e.f.pad)) :=
    Mod.set (Mod.set (Mod.set (Mod.refl (fun k => k = g) w) ⟨g, i * 3, none⟩ _ (.inl rfl)) ⟨g, i * 3 + 1, none⟩ _ (.inl rfl)) ⟨g, i * 3 + 2, none⟩ _ (.inl rfl)
  refine ⟨?_, fun x hx => ⟨?_, (h.strs x (hmem x hx)).2⟩, fun x hx => (h.far x (hmem x hx)).imp id (fun ⟨a, h1, h2, h3⟩ => ⟨a, h1, h2, Nat.lt_of_lt_of_le h3 hm.size⟩)⟩
  · obtain ⟨h1, h2⟩ := h.row
    refine ⟨by rw [rowOf_len], ?_⟩
    rcases h2 with ⟨h2, -⟩ | ⟨g', cap', cur, hv, hbg, hg, hnc, hcm, hcs, htake⟩
    · cases h2
    · cases hv
      have hb : Blk w g cur 60 := hg
      refine .inr ⟨g, cap, _, by rw [List.length_set], hbg, ((hb.set (i * 3) _).set (i * 3 + 1) _).set (i * 3 + 2) _, by rw [List.length_set]; exact hnc, hcm, by simp [hcs], ?_⟩
      rw [List.length_set, rowOf_set E i e hi, ← htake]
      simp [List.take_set]
  · rcases h.far x (hmem x hx) with q | ⟨a, ha, q, -⟩
    · have := (h.strs x (hmem x hx)).1
      exact ⟨this.room, this.cap, this.small, .inl q⟩
    · refine (h.strs x (hmem x hx)).1.mod2 hm (fun y hy hq => ?_)
      rw [ha] at hy
      cases hy
      exact q (by rw [hq]; rfl)
theorem Own.cells {w : World} {base g n cap : Nat} {E : List EntV} (h : Own w base (.slice (some ⟨g, 0, none⟩) n cap) E) : (∀ (i : Nat) (e : EntV), E[i]? = some e → w.cell? ⟨g, i * 3, none⟩ = some (.slice e.pa e.f.path.length e.pc) ∧ w.cell? ⟨g, i * 3 + 1, none⟩ = some (.int .i64 e.f.len) ∧ w.cell? ⟨g, i * 3 + 2, none⟩ = some (.bool e.f.pad)) ∧ (∀ j, w.frozen? ⟨g, j, none⟩ = false) ∧ g < w.heap.size := by
  have hlt := h.lt g rfl
  refine ⟨fun i e he => ?_, fun j => ?_, hlt⟩
  · have hcell : ∀ j u, j < 3 → e.cells[j]? = some u → w.cell? ⟨g, i * 3 + j, none⟩ = some u := by
      intro j u hj hu
      have h1 := h.row.cells (g := g) rfl (i * 3 + j) u (by rw [rowOf_at E i e he j hj]; exact hu)
      rw [add_none] at h1
      simpa using h1
    exact ⟨hcell 0 _ (by omega) rfl, hcell 1 _ (by omega) rfl, hcell 2 _ (by omega) rfl⟩
  · rcases h.row.2 with ⟨q, -⟩ | ⟨g', cap', cur, hv, hbg, hg, -⟩
    · cases q
    · cases hv
      exact Blk.frz (show Blk w g cur 60 from hg) j
theorem take_set_next {C : List EntV} {i : Nat} (e : EntV) (h : i < C.length) : (C.set i e).take (i + 1) = C.take i ++ [e] := by
  rw [List.set_eq_take_append_cons_drop, if_pos h, List.take_append]
  simp [Nat.min_eq_left (Nat.le_of_lt h), List.take_take]

theorem Blk.setCells {b : Nat} {t : TypeId} : ∀ (vs : List Value) (o : Nat) (w : World) (cs : Array Value), Blk w b cs t → ∃ cs', Blk (w.setCells b o vs) b cs' t ∧ cs'.size = cs.size ∧ cs'.toList.take o = cs.toList.take o
  | [], o, w, cs, h => ⟨cs, h, rfl, rfl⟩
  | v :: r, o, w, cs, h => by
    obtain ⟨cs', h1, h2, h3⟩ := Blk.setCells r (o + 1) _ _ (h.set o v)
    refine ⟨cs', h1, by simpa using h2, ?_⟩
    have := congrArg (List.take o) h3
    simp only [List.take_take, Nat.min_eq_left (Nat.le_succ o)] at this
    rw [this]
    rw [Array.toList_setIfInBounds, List.take_set, List.set_eq_of_length_le (List.length_take_le _ _)]
theorem Mod.setCells {S : Nat → Prop} {b : Nat} : ∀ (vs : List Value) (o : Nat) (a w : World), Mod S a w → S b → Mod S a (w.setCells b o vs)
  | [], _, _, _, h, _ => h
  | v :: r, o, a, w, h, hb => Mod.setCells r (o + 1) a _ (h.set ⟨b, o, none⟩ v (.inl hb)) hb
/-- The end of the list is cleared and cut off. -/
theorem Own.clear {w : World} {base g n cap : Nat} {E : List EntV} (h : Own w base (.slice (some ⟨g, 0, none⟩) n cap) E) (i : Nat) (hi : i ≤ E.length) (vs : List Value) :
    Own (w.setCells g (i * 3) vs) base (.slice (some ⟨g, 0, none⟩) i cap) (E.take i) := by
  have hm : Mod (· = g) w (w.setCells g (i * 3) vs) := Mod.setCells _ _ _ _ (Mod.refl _ _) rfl
  have hlen : (E.take i).length = i := by simp; omega
  refine ⟨?_, fun x hx => ⟨?_, (h.strs x (List.mem_of_mem_take hx)).2⟩, fun x hx => (h.far x (List.mem_of_mem_take hx)).imp id (fun ⟨a, h1, h2, h3⟩ => ⟨a, h1, h2, Nat.lt_of_lt_of_le h3 hm.size⟩)⟩
  · obtain ⟨h1, h2⟩ := h.row
    refine ⟨by rw [rowOf_len], ?_⟩
    rcases h2 with ⟨h2, -⟩ | ⟨g', cap', cur, hv, hbg, hg, hnc, hcm, hcs, htake⟩
    · cases h2
    · cases hv
      have hb : Blk w g cur 60 := hg
      obtain ⟨cur', k1, k2, k3⟩ := Blk.setCells vs (i * 3) w cur hb
      refine .inr ⟨g, cap, cur', by rw [hlen], hbg, k1, by rw [hlen]; omega, hcm, by rw [k2]; exact hcs, ?_⟩
      rw [hlen, k3]
      have e1 : rowOf (E.take i) = (rowOf E).take (i * 3) := by
        have h5 : rowOf E = rowOf (E.take i) ++ rowOf (E.drop i) := by
          rw [show rowOf (E.take i) ++ rowOf (E.drop i) = rowOf (E.take i ++ E.drop i) by simp only [rowOf, List.flatMap_append], List.take_append_drop]
        rw [h5]
        exact (List.take_left' (by rw [rowOf_len, hlen])).symm
      rw [e1, ← htake, List.take_take, Nat.min_eq_left (by omega)]
  · have hx := List.mem_of_mem_take hx
    rcases h.far x hx with q | ⟨a, ha, q, -⟩
    · have := (h.strs x hx).1
      exact ⟨this.room, this.cap, this.small, .inl q⟩
    · refine (h.strs x hx).1.mod2 hm (fun y hy hq => ?_)
      rw [ha] at hy
      cases hy
      exact q (by rw [hq]; rfl)
theorem zero_file (w : World) : (zeroValue 60).run Tryz.prog w = .ok (.agg #[.slice none 0 0, .int .i64 0, .bool false]) w := by
  have h := info_file
  cases hi : Tryz.prog.info? 60 with
  | none => rw [hi] at h; cases h
  | some i =>
    rw [hi] at h
    simp at h
    simp [zeroValue, typeInfo, hi, h.1]
theorem clear_files {w : World} {base g n cap : Nat} {E : List EntV} (h : Own w base (.slice (some ⟨g, 0, none⟩) n cap) E) (i c : Nat) (hi : i < E.length) : ∃ vs : List Value, ∀ ty, (Builtin.clear_ #[54] ty #[.slice (some ⟨g, i * 3, none⟩) (E.length - i) c]).run Tryz.prog w = .ok (.tuple #[]) (w.setCells g (i * 3) vs) := by
  obtain ⟨h1, h2⟩ := h.row
  rcases h2 with ⟨h2, -⟩ | ⟨g', cap', cur, hv, hbg, hg, hnc, hcm, hcs, htake⟩
  · cases h2
  · cases hv
    have hb : Blk w g cur 60 := hg
    refine ⟨(Builtin.zeroCells #[.slice none 0 0, .int .i64 0, .bool false] (E.length - i)).toList, fun ty => ?_⟩
    have hsz : (Builtin.zeroCells #[.slice none 0 0, .int .i64 0, .bool false] (E.length - i)).toList.length = (E.length - i) * 3 := by
      simp [Builtin.zeroCells, Nat.mul_comm]
    have hst := run_storeCells_cells (P := Tryz.prog) g (i * 3) (Builtin.zeroCells #[.slice none 0 0, .int .i64 0, .bool false] (E.length - i)).toList 0 w (fun j hj => by
      rw [hsz] at hj
      rw [hb.cell, Array.getElem?_eq_getElem (by omega)]
      rfl) (fun j hj => hb.frz _) (by
      intro v hv
      obtain ⟨k, hk, rfl⟩ := List.mem_iff_getElem.1 hv
      simp only [Builtin.zeroCells, Array.toList_map, List.getElem_map]
      have h3 : ∀ m : Nat, m < 3 → ((#[Value.slice none 0 0, .int .i64 0, .bool false])[m]!).oneCell' = true := by
        intro m hm
        match m, hm with
        | 0, _ => rfl
        | 1, _ => rfl
        | 2, _ => rfl
      exact h3 _ (Nat.mod_lt _ (by decide)))
    simp only [Nat.add_zero] at hst
    obtain ⟨m, hm⟩ : ∃ m, E.length - i = m + 1 := ⟨E.length - i - 1, by omega⟩
    rw [hm] at hst ⊢
    simp [Builtin.clear_, run_underlying Tryz.underlying54, zero_file, Value.cells, hst]

theorem bare_filter : ∀ E : List EntV, (E.filter (fun e => !e.f.pad)).map (·.f) = bareL (E.map (·.f))
  | [] => rfl
  | e :: r => by
    have := bare_filter r
    simp only [bareL] at this ⊢
    cases hp : e.f.pad <;> simp [List.filter_cons, hp, this]
end Go.Proofs.YtnhgichiedninaaGreatDoor

namespace Go.Proofs.YtnhgichiedninaaGreatDoor
set_option linter.unusedSimpArgs false
set_option linter.unusedVariables false
open Go.RowKit

def pageL : List FileV := [⟨[⟨#[97]⟩], 20, false⟩, ⟨[⟨#[98]⟩], 5, false⟩]
theorem page_valid : validOf pageL = true := by kernel_rfl
theorem page_way : wayErr pageL 16 = 0 := by kernel_rfl
theorem page_padded : padded 16 0 pageL = [⟨[⟨#[97]⟩], 20, false⟩, ⟨padPath 12, 12, true⟩, ⟨[⟨#[98]⟩], 5, false⟩] := by
  simp [padded, lackOf, pageL]
theorem page_old : piecesOf pageL 16 false = 2 := by kernel_rfl
theorem page_new : piecesOf pageL 16 true = 3 := by kernel_rfl
end Go.Proofs.YtnhgichiedninaaGreatDoor

namespace Go.Proofs.YtnhgichiedninaaGreatDoor
set_option linter.unusedSimpArgs false
set_option linter.unusedVariables false
open Go.RowKit

def eqF (f g : FileV) : Bool := (f.len == g.len) && ((f.pad == g.pad) && decide (f.path = g.path))
def sameB : List FileV → List FileV → Bool
  | [], [] => true
  | f :: r, g :: s => eqF f g && sameB r s
  | _, _ => false
theorem eqF_self (f : FileV) : eqF f f = true := by simp [eqF]
theorem sameB_self : ∀ l : List FileV, sameB l l = true
  | [] => rfl
  | f :: r => by simp [sameB, eqF_self, sameB_self r]
theorem eqF_eq {f g : FileV} (h : eqF f g = true) : f = g := by
  simp only [eqF, Bool.and_eq_true, beq_iff_eq, decide_eq_true_eq] at h
  obtain ⟨a, b, c⟩ := f
  obtain ⟨a', b', c'⟩ := g
  simp at h
  obtain ⟨rfl, rfl, rfl⟩ := h
  rfl
theorem sameB_len : ∀ {l m : List FileV}, l.length ≠ m.length → sameB l m = false
  | [], [], h => absurd rfl h
  | [], _ :: _, _ => rfl
  | _ :: _, [], _ => rfl
  | f :: r, g :: s, h => by
    simp only [sameB, sameB_len (l := r) (m := s) (by simpa using h), Bool.and_false]
theorem sameB_all : ∀ {l m : List FileV}, l.length = m.length → (∀ (k : Nat) (h1 : k < l.length) (h2 : k < m.length), eqF l[k] m[k] = true) → sameB l m = true
  | [], [], _, _ => rfl
  | [], _ :: _, h, _ => by simp at h
  | _ :: _, [], h, _ => by simp at h
  | f :: r, g :: s, h, hk => by
    have h0 := hk 0 (by simp) (by simp)
    have hr := sameB_all (l := r) (m := s) (by simpa using h) (fun k h1 h2 => hk (k + 1) (by simpa using h1) (by simpa using h2))
    simp only [sameB, hr]
    simpa using h0
theorem sameB_not : ∀ {l m : List FileV} {k : Nat} (h1 : k < l.length) (h2 : k < m.length), eqF l[k] m[k] = false → sameB l m = false
  | f :: r, g :: s, 0, _, _, h => by simp only [sameB]; simp at h; simp [h]
  | f :: r, g :: s, k + 1, h1, h2, h => by
    have := sameB_not (l := r) (m := s) (k := k) (by simpa using h1) (by simpa using h2) (by simpa using h)
    simp only [sameB, this, Bool.and_false]

end Go.Proofs.YtnhgichiedninaaGreatDoor

namespace Go.Proofs.YtnhgichiedninaaGreatDoor
set_option linter.unusedSimpArgs false
set_option linter.unusedVariables false
open Go.RowKit

theorem FilesAt.none (w : World) : FilesAt w none 0 [] := ⟨by simp, by simp [maxLen], .inl rfl⟩
theorem good_path {f : FileV} (h : Good f) : 1 ≤ f.path.length ∧ f.path.length ≤ 8 := by
  have hn := h.1
  unfold namedR at hn
  split at hn
  · have := congrArg List.length (of_decide_eq_true hn)
    simp [padPath] at this
    omega
  · simp at hn
    omega
theorem padded_sum (piece : Int) (hp : 16 ≤ piece ∧ piece ≤ 1024) : ∀ (l : List FileV) (x : Int), sumOf (padded piece x l) ≤ sumOf l + 1024 * l.length
  | [], _ => by simp [padded]
  | f :: r, x => by
    by_cases hq : 0 < f.len ∧ 0 < (-x) % piece
    · rw [padded_pos hq]
      have := padded_sum piece hp r (x + (-x) % piece + f.len)
      have h1 := Int.emod_lt_of_pos (-x) (show 0 < piece by omega)
      simp only [sumOf, List.map_cons, List.sum_cons, List.length_cons] at *
      omega
    · rw [padded_none hq]
      have := padded_sum piece hp r (x + f.len)
      simp only [sumOf, List.map_cons, List.sum_cons, List.length_cons] at *
      omega
/-- What a valid list's bare and padded lists keep. -/
structure Kept (l : List FileV) (piece : Int) : Prop where
  len : l.length ≤ 40
  path : ∀ f ∈ l, 1 ≤ f.path.length ∧ f.path.length ≤ 8
  blen : (bareL l).length ≤ 40
  bfit : ∀ f ∈ bareL l, 0 ≤ f.len ∧ f.len ≤ 65536
  pos : ∀ f ∈ padded piece 0 (bareL l), 0 ≤ f.len
  sum : sumOf (padded piece 0 (bareL l)) ≤ 4611686018427387904
theorem kept {l : List FileV} {piece : Int} (h : Vld l) (hp : pieceOf piece = true) : Kept l piece := by
  have hp2 := piece_range hp
  have hb : (bareL l).length ≤ 40 := Nat.le_trans (List.length_filter_le _ _) h.most
  have hg : ∀ f ∈ bareL l, Good f := fun f hf => h.good f (List.mem_filter.1 hf).1
  refine ⟨h.most, fun f hf => good_path (h.good f hf), hb, fun f hf => ⟨(hg f hf).2.1, (hg f hf).2.2.1⟩, fun f hf => ?_, ?_⟩
  · rcases padded_mem piece hp2 _ _ f hf with hf | ⟨n, rfl, n0, -⟩
    · exact (hg f hf).2.1
    · show 0 ≤ n; omega
  · have h1 := padded_sum piece hp2 (bareL l) 0
    have h2 := bare_sum l (fun f hf => (h.good f hf).2.1)
    have h3 := h.sum
    omega
def bareOf (l : List FileV) : List FileV × Int := if validOf l then (bareL l, 0) else ([], 1)
def padOf (l : List FileV) (piece : Int) : List FileV := padded piece 0 (bareL l)
def alignOf (l : List FileV) (piece : Int) : List FileV × Int := if validOf l then (if pieceOf piece then (if 40 < (padOf l piece).length ∨ 65536 < sumOf (padOf l piece) then ([], 4) else (padOf l piece, 0)) else ([], 7)) else ([], 1)
def isAlOf (l : List FileV) (piece : Int) : Bool × Int := if validOf l then (if pieceOf piece then (sameB l (padOf l piece), 0) else (false, 7)) else (false, 1)
end Go.Proofs.YtnhgichiedninaaGreatDoor

namespace Go.Proofs.YtnhgichiedninaaGreatDoor
set_option linter.unusedSimpArgs false
set_option linter.unusedVariables false
open Go.RowKit

theorem info_string : (Tryz.prog.info? 9).map (fun i => (i.zero, i.size, i.bytes)) = some (some (.string ⟨#[]⟩), 1, 16) := by kernel_rfl
theorem row_empty (w : World) (base : Nat) (h : base ≤ w.heap.size) : (w.alloc (.cells #[] 9)).ownsRow base 9 1 (.slice (some ⟨w.heap.size, 0, none⟩) 0 0) 0 [] :=
  ⟨rfl, .inr ⟨w.heap.size, 0, #[], rfl, h, Blk.new w #[] 9, Nat.le_refl _, by simp [maxLen], rfl, rfl⟩⟩
theorem copy_new2 {wr w1 : World} (n : New wr w1) (u : Value) (o : Obj) : New wr ((w1.setCell ⟨wr.heap.size, 0, none⟩ u).alloc o) :=
  (Mod.set n _ _ (.inr (Nat.le_refl _))).alloc _
theorem bare_next {l : List FileV} {k : Nat} (h : k < l.length) : bareL (l.take (k + 1)) = bareL (l.take k) ++ (if l[k].pad then [] else [l[k]]) := by
  unfold bareL
  rw [List.take_add_one, List.getElem?_eq_getElem h]
  simp only [Option.toList, List.filter_append]
  cases hq : l[k].pad <;> simp [hq]
end Go.Proofs.YtnhgichiedninaaGreatDoor

namespace Go.Proofs.YtnhgichiedninaaGreatDoor
set_option linter.unusedSimpArgs false
set_option linter.unusedVariables false
open Go.RowKit

theorem rlack_is {piece : Int} (h : pieceOf piece = true) {x : Int} (hx : 0 ≤ x) : (wrap64 (piece - x % piece)).tmod piece = (-x) % piece := by
  have hp := piece_range h
  have h1 := Int.emod_nonneg x (show piece ≠ 0 by omega)
  have h2 := Int.emod_lt_of_pos x (show 0 < piece by omega)
  rw [show wrap64 (piece - x % piece) = piece - x % piece by unfold wrap64; omega, Int.tmod_eq_emod_of_nonneg (by omega), Int.sub_emod, Int.emod_self, Int.emod_emod_of_dvd _ (Int.dvd_refl piece)]
  rw [show -x = 0 - x by omega, Int.sub_emod 0 x]
  simp
theorem lack_pos {piece x : Int} (hx : 0 ≤ x) (h : 0 < (-x) % piece) : 0 < x := by
  rcases Int.lt_or_eq_of_le hx with h1 | h1
  · exact h1
  · subst h1
    simp at h
end Go.Proofs.YtnhgichiedninaaGreatDoor

namespace Go.Proofs.YtnhgichiedninaaGreatDoor
set_option linter.unusedSimpArgs false
set_option linter.unusedVariables false
open Go.RowKit

theorem eqF_pre {f g : FileV} : eqF f g = (!(f.len != g.len) && (!(f.pad != g.pad) && (!((f.path.length : Int) != g.path.length) && decide (f.path <+: g.path)))) := by
  unfold eqF
  simp only [bne, Bool.not_not]
  congr 2
  rw [Bool.eq_iff_iff]
  simp only [decide_eq_true_eq, Bool.and_eq_true, beq_iff_eq]
  constructor
  · intro h
    rw [h]
    exact ⟨rfl, List.prefix_rfl⟩
  · rintro ⟨h1, h2⟩
    exact h2.eq_of_length (by omega)
end Go.Proofs.YtnhgichiedninaaGreatDoor

namespace Go.Proofs.YtnhgichiedninaaGreatDoor
set_option linter.unusedSimpArgs false
set_option linter.unusedVariables false
open Go.RowKit

set_option maxRecDepth 100000 in
set_option maxHeartbeats 1000000 in
theorem rcheck_any (a : Option Addr) (c : Nat) (l : List FileV) (piece : Int) (w : World) (h : FilesAt w a c l) (h0 : -9223372036854775808 ≤ piece) (h1 : piece ≤ 9223372036854775807) :
    Calls Tryz.prog 69 #[.slice a l.length c, .int .i64 piece] w fun e w' => e = .returned (.int .i64 (wayErr l piece)) ∧ New w w' := by
  cases hv : validOf l with
  | false =>
    have HV := hid (hv ▸ rvalid_any a c l w h : Calls Tryz.prog 61 #[.slice a l.length c] w fun e w' => e = .returned (.bool false) ∧ New w w')
    have e : wayErr l piece = 1 := by simp [wayErr, hv]
    rw [e]
    clear h hv e
    go_enter Tryz.func69, Tryz.ntmps69
    go_wp2_with (first | (go_at_call 61; refine HV.out.mono ?_; rintro e w1 ⟨rfl, h1⟩; have H1 := hid h1; clear h1) | (go_at_call 102; refine (HP.out _).mono ?_; rintro e w2 ⟨rfl, rfl⟩))
    go_ret
    exact ⟨rfl, H1.out⟩
  | true =>
    have HV := hid (hv ▸ rvalid_any a c l w h : Calls Tryz.prog 61 #[.slice a l.length c] w fun e w' => e = .returned (.bool true) ∧ New w w')
    cases hp : pieceOf piece with
    | false =>
      have HP := hid (fun w => (hp ▸ rpiece_any piece w h0 h1 : Calls Tryz.prog 102 #[.int .i64 piece] w fun e w' => e = .returned (.bool false) ∧ w = w'))
      have e : wayErr l piece = 7 := by simp [wayErr, hv, hp]
      rw [e]
      clear h hv hp e
      go_enter Tryz.func69, Tryz.ntmps69
      go_wp2_with (first | (go_at_call 61; refine HV.out.mono ?_; rintro e w1 ⟨rfl, h1⟩; have H1 := hid h1; clear h1) | (go_at_call 102; refine (HP.out _).mono ?_; rintro e w2 ⟨rfl, rfl⟩))
      go_ret
      exact ⟨rfl, H1.out⟩
    | true =>
      have HP := hid (fun w => (hp ▸ rpiece_any piece w h0 h1 : Calls Tryz.prog 102 #[.int .i64 piece] w fun e w' => e = .returned (.bool true) ∧ w = w'))
      have e : wayErr l piece = 0 := by simp [wayErr, hv, hp]
      rw [e]
      clear h hv hp e
      go_enter Tryz.func69, Tryz.ntmps69
      go_wp2_with (first | (go_at_call 61; refine HV.out.mono ?_; rintro e w1 ⟨rfl, h1⟩; have H1 := hid h1; clear h1) | (go_at_call 102; refine (HP.out _).mono ?_; rintro e w2 ⟨rfl, rfl⟩))
      go_ret
      exact ⟨rfl, H1.out⟩
theorem al_bad {l : List FileV} {piece : Int} (h : wayErr l piece ≠ 0) : alignOf l piece = ([], wayErr l piece) ∧ isAlOf l piece = (false, wayErr l piece) := by
  unfold wayErr alignOf isAlOf at *
  cases hv : validOf l <;> simp [hv] at h ⊢
  cases hp : pieceOf piece <;> simp [hp] at h ⊢
end Go.Proofs.YtnhgichiedninaaGreatDoor
