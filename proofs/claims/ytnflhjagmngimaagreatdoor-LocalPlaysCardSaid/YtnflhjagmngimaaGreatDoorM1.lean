/-
  Several texts in one, in their build order. Blocks known whole ('Blk'), and what a call may have turned ('Mod'). Plain facts on worlds, over no program. No condition. A map that a call has made, with keys of one plain kind: its entries in the order in which they lie; look-up, store, delete, length, an entry turned in place. Over any program. No condition.
-/
import Derived.Test.YtnflhjagmngimaaGreatDoorRows
import Derived.WalkKit
import Derived.WalkSpells
import Derived.WalkLawsBesides
import Derived.Laws.EntriesVeiled
import Derived.OrdersHeld
import Derived.KernelRfl
import Derived.Maps.OwnOps
import Derived.MapKept
import Derived.Carry
namespace Go.Proofs.YtnflhjagmngimaaGreatDoor
set_option linter.unusedSimpArgs false
set_option linter.unusedVariables false
open Go.RowKit

/-- A fact kept from the walk. -/
theorem hid {p : Prop} (h : p) : Hid p := h

/-- The block b holds just the cells cs, of the element type t, and none of them is frozen. -/
def Blk (w : World) (b : Nat) (cs : Array Value) (t : TypeId) : Prop := w.heap[b]? = some (.cells cs t (0, 0))

theorem Blk.cell {w : World} {b : Nat} {cs : Array Value} {t : TypeId} (h : Blk w b cs t) (i : Nat) : w.cell? ⟨b, i, none⟩ = cs[i]? := by
  unfold Blk at h
  simp [World.cell?, h]
theorem Blk.cellv {w : World} {b : Nat} {cs : Array Value} {t : TypeId} (h : Blk w b cs t) (i : Nat) {v : Value} (hv : cs[i]? = some v) : w.cell? ⟨b, i, none⟩ = some v := by
  rw [h.cell, hv]
theorem Blk.frz {w : World} {b : Nat} {cs : Array Value} {t : TypeId} (h : Blk w b cs t) (i : Nat) : w.frozen? ⟨b, i, none⟩ = false := by
  unfold Blk at h
  simp [World.frozen?, h]
theorem Blk.lt {w : World} {b : Nat} {cs : Array Value} {t : TypeId} (h : Blk w b cs t) : b < w.heap.size := by
  unfold Blk at h
  rcases Nat.lt_or_ge b w.heap.size with h' | h'
  · exact h'
  · simp [Array.getElem?_eq_none h'] at h
theorem Blk.one {w : World} {b : Nat} {v : Value} {t : TypeId} (h : Blk w b #[v] t) : w.cell? ⟨b, 0, none⟩ = some v ∧ w.frozen? ⟨b, 0, none⟩ = false ∧ b < w.heap.size := ⟨h.cellv 0 rfl, h.frz 0, h.lt⟩
theorem Blk.of_heap {w w' : World} {b : Nat} {cs : Array Value} {t : TypeId} (h : Blk w b cs t) (e : w'.heap[b]? = w.heap[b]?) : Blk w' b cs t := e.trans h
theorem Blk.alloc {w : World} {b : Nat} {cs : Array Value} {t : TypeId} (h : Blk w b cs t) (o : Obj) : Blk (w.alloc o) b cs t :=
  h.of_heap (Below.heap_alloc w o b h.lt)
theorem Blk.drew {w : World} {b : Nat} {cs : Array Value} {t : TypeId} (h : Blk w b cs t) : Blk w.drew b cs t := h
theorem Blk.other {w : World} {b : Nat} {cs : Array Value} {t : TypeId} {p : Addr} {u : Value} (hp : b ≠ p.block) (h : Blk w b cs t) : Blk (w.setCell p u) b cs t :=
  h.of_heap (Below.heap_setCell w p u b hp)
theorem Blk.set {w : World} {b : Nat} {cs : Array Value} {t : TypeId} (h : Blk w b cs t) (i : Nat) (u : Value) : Blk (w.setCell ⟨b, i, none⟩ u) b (cs.setIfInBounds i u) t := by
  have hlt := h.lt
  unfold Blk at h ⊢
  have h' : w.heap[b] = .cells cs t (0, 0) := by simpa [Array.getElem?_eq_getElem hlt] using h
  show (w.heap.modify b _)[b]? = _
  rw [Array.getElem?_eq_getElem (by simpa using hlt), Array.getElem_modify_self, h']
  rfl
theorem Blk.new (w : World) (cs : Array Value) (t : TypeId) : Blk (w.alloc (.cells cs t)) w.heap.size cs t := by unfold Blk; show (w.heap.push _)[w.heap.size]? = _; simp
theorem Blk.newAt {w : World} {b : Nat} {cs : Array Value} {t : TypeId} (h : b = w.heap.size) : Blk (w.alloc (.cells cs t)) b cs t := by subst h; exact Blk.new w cs t
theorem Blk.row {w : World} {b : Nat} {cs cs' : Array Value} {t : TypeId} (h : Blk w b cs t) (e : cs = cs') : Blk w b cs' t := e ▸ h

/-- The blocks of S may have turned, and there may be new blocks. All else is as it was. -/
structure Mod (S : Nat → Prop) (w w' : World) : Prop where
  os : w'.os = w.os
  tape : w'.tape = w.tape
  output : w'.output = w.output
  size : w.heap.size ≤ w'.heap.size
  block : ∀ k, k < w.heap.size → ¬ S k → w'.heap[k]? = w.heap[k]?

theorem Mod.refl (S : Nat → Prop) (w : World) : Mod S w w := ⟨rfl, rfl, rfl, Nat.le_refl _, fun _ _ _ => rfl⟩
theorem Mod.trans' {S S' : Nat → Prop} {a b c : World} (h : Mod S a b) (k : Mod S' b c) (hs : ∀ i, i < a.heap.size → S' i → S i) : Mod S a c :=
  ⟨k.os.trans h.os, k.tape.trans h.tape, k.output.trans h.output, Nat.le_trans h.size k.size, fun i hi hn => (k.block i (Nat.lt_of_lt_of_le hi h.size) (fun x => hn (hs i hi x))).trans (h.block i hi hn)⟩
theorem Mod.trans {S : Nat → Prop} {a b c : World} (h : Mod S a b) (k : Mod S b c) : Mod S a c := h.trans' k (fun _ _ x => x)
theorem Mod.mono {S S' : Nat → Prop} {a b : World} (h : Mod S a b) (hs : ∀ i, i < a.heap.size → S i → S' i) : Mod S' a b :=
  ⟨h.os, h.tape, h.output, h.size, fun i hi hn => h.block i hi (fun x => hn (hs i hi x))⟩
theorem Mod.drew {S : Nat → Prop} {a b : World} (h : Mod S a b) : Mod S a b.drew := ⟨h.os, h.tape, h.output, h.size, h.block⟩
theorem Mod.alloc {S : Nat → Prop} {a b : World} (h : Mod S a b) (o : Obj) : Mod S a (b.alloc o) :=
  ⟨h.os, h.tape, h.output, by have := h.size; simp; omega, fun i hi hn => (Below.heap_alloc b o i (Nat.lt_of_lt_of_le hi h.size)).trans (h.block i hi hn)⟩
theorem Mod.set {S : Nat → Prop} {a b : World} (h : Mod S a b) (p : Addr) (u : Value) (hp : S p.block ∨ a.heap.size ≤ p.block) : Mod S a (b.setCell p u) :=
  ⟨h.os, h.tape, h.output, by have := h.size; simpa using this, fun i hi hn => (Below.heap_setCell b p u i (fun e => by subst e; rcases hp with hp | hp; exact hn hp; omega)).trans (h.block i hi hn)⟩
theorem Mod.blk {S : Nat → Prop} {w w' : World} (h : Mod S w w') {b : Nat} {cs : Array Value} {t : TypeId} (hb : Blk w b cs t) (hn : ¬ S b) : Blk w' b cs t := hb.of_heap (h.block b hb.lt hn)
theorem Mod.below {S : Nat → Prop} {w w' : World} (h : Mod S w w') (B : Nat) (hB : B ≤ w.heap.size) (hs : ∀ i, i < B → ¬ S i) : Below B w w' :=
  ⟨h.os, h.tape, h.output, h.size, fun k hk => h.block k (by omega) (hs k hk)⟩
theorem Mod.of_below {w w' : World} {B : Nat} (h : Below B w w') : Mod (fun k => B ≤ k) w w' :=
  ⟨h.os, h.tape, h.output, h.size, fun k _ hn => h.block k (by omega)⟩
/-- Nothing that was there has turned. -/
abbrev New (w w' : World) : Prop := Mod (fun _ => False) w w'
theorem New.blk {w w' : World} (h : New w w') {b : Nat} {cs : Array Value} {t : TypeId} (hb : Blk w b cs t) : Blk w' b cs t := Mod.blk h hb (fun x => x)
theorem New.mod {S : Nat → Prop} {w w' : World} (h : New w w') : Mod S w w' := Mod.mono h (fun _ _ x => x.elim)

theorem ret_int {k : IntKind} {a b : Int} (h : a = b) : Ending.returned (.int k a) = .returned (.int k b) := by rw [h]
theorem ret_bool {a b : Bool} (h : a = b) : Ending.returned (.bool a) = .returned (.bool b) := by rw [h]
/-- 'wpAnyH_take', its plain premises shown by themselves: operation i of a drawn region is taken. -/
theorem tk {P : Program} {md : Region.Mode} {ops : Array Oper} {Q : Exit → Act → World → Prop} {S : World → Prop} {fuel : Nat} {listed : Array Bool} {a : Act} {w : World} (i : Nat) {v : Value} {oi : Oper}
    (hy : ∀ w, S w → (execOp a.eval oi).run P w = .ok (.value v) w) (h : wpAnyH P md ops Q S fuel (listed.setIfInBounds i true) (a.put oi.dst v) w)
    (hi : ops[i]? = some oi := by simp only [List.getElem?_toArray, List.getElem?_cons_succ, List.getElem?_cons_zero]; rfl)
    (hs : Region.noSelect ops = true := by kernel_rfl) (hf : Region.free md ops listed i = true := by kernel_rfl) (hr : (Region.ready md ops listed).contains i = true := by kernel_rfl)
    (hQ : ∀ c a w, Q (.panic c) (a.put oi.dst v) w → Q (.panic c) a w := by intro _ _ _ h; exact h) (hw : Region.wanted oi (yielded ops a.tmps) = true := by rfl) (hS : S w := by assumption) : wpAnyH P md ops Q S (fuel + 1) listed a w :=
  wpAnyH_take hi hs hf hr hQ (Or.inl ⟨hw, hy⟩) hS h
/-- .. is passed by. -/
theorem sk {P : Program} {md : Region.Mode} {ops : Array Oper} {Q : Exit → Act → World → Prop} {S : World → Prop} {fuel : Nat} {listed : Array Bool} {a : Act} {w : World} (i : Nat) {oi : Oper}
    (h : wpAnyH P md ops Q S fuel (listed.setIfInBounds i true) (a.put oi.dst undef) w)
    (hi : ops[i]? = some oi := by simp only [List.getElem?_toArray, List.getElem?_cons_succ, List.getElem?_cons_zero]; rfl)
    (hs : Region.noSelect ops = true := by kernel_rfl) (hf : Region.free md ops listed i = true := by kernel_rfl) (hr : (Region.ready md ops listed).contains i = true := by kernel_rfl)
    (hQ : ∀ c a w, Q (.panic c) (a.put oi.dst undef) w → Q (.panic c) a w := by intro _ _ _ h; exact h) (hw : Region.wanted oi (yielded ops a.tmps) = false := by kernel_rfl) (hS : S w := by assumption) : wpAnyH P md ops Q S (fuel + 1) listed a w :=
  wpAnyH_take hi hs hf hr hQ (Or.inr ⟨hw, rfl⟩) hS h
end Go.Proofs.YtnflhjagmngimaaGreatDoor

namespace Go.Proofs.YtnflhjagmngimaaGreatDoor
set_option linter.unusedSimpArgs false
set_option linter.unusedVariables false
open Go.RowKit Go.MapKept

/-- Block b is a map of keys of kind d; its entries are L, in the order in which they lie. -/
def MapL (w : World) (b : Nat) (d : TypeDesc) (L : List (Value × Value)) : Prop :=
  ∃ es clock, w.heap[b]? = some (.map es clock) ∧ Stamped es clock ∧ (∀ x ∈ es.toList, IsKey d x.key) ∧ es.toList.map (fun x => (x.key, x.val)) = L
theorem MapL.of_heap {w w' : World} {b : Nat} {d : TypeDesc} {L : List (Value × Value)} (h : MapL w b d L) (e : w'.heap[b]? = w.heap[b]?) : MapL w' b d L := by
  obtain ⟨es, clock, hb, h1⟩ := h
  exact ⟨es, clock, e.trans hb, h1⟩
theorem MapL.lt {w : World} {b : Nat} {d : TypeDesc} {L : List (Value × Value)} (h : MapL w b d L) : b < w.heap.size := by
  obtain ⟨es, clock, hb, -⟩ := h
  exact (Array.getElem?_eq_some_iff.1 hb).1
theorem MapL.mod {T : Nat → Prop} {w w' : World} {b : Nat} {d : TypeDesc} {L : List (Value × Value)} (h : MapL w b d L) (hm : Mod T w w') (hn : ¬ T b) : MapL w' b d L := h.of_heap (hm.block b h.lt hn)
theorem MapL.new {w w' : World} {b : Nat} {d : TypeDesc} {L : List (Value × Value)} (h : MapL w b d L) (hm : New w w') : MapL w' b d L := h.mod hm (fun q => q)
theorem MapL.made (w : World) (d : TypeDesc) {b : Nat} (hb : b = w.heap.size) : MapL (w.alloc (.map #[] 0)) b d [] := by
  subst hb
  exact ⟨#[], 0, (MapKept.heap_alloc w _).1, stamped_empty 0, by simp, rfl⟩
theorem Mod.setObjL {w : World} {b : Nat} (o : Obj) : Mod (· = b) w { w with heap := w.heap.setIfInBounds b o } :=
  ⟨rfl, rfl, rfl, by simp, fun k hk hn => by simp [Ne.symm hn]⟩
theorem MapL.keys {w : World} {b : Nat} {d : TypeDesc} {L : List (Value × Value)} (h : MapL w b d L) : (L.map (·.1)).Nodup ∧ ∀ x ∈ L, IsKey d x.1 := by
  obtain ⟨es, clock, hb, hs, hk, rfl⟩ := h
  refine ⟨?_, fun x hx => ?_⟩
  · rw [List.map_map]; exact hs.2.2
  · obtain ⟨e, he, rfl⟩ := List.mem_map.1 hx
    exact hk e he
theorem map_at {es : Array MapEntry} {L : List (Value × Value)} (h : es.toList.map (fun x => (x.key, x.val)) = L) {i : Nat} {k v : Value} (hi : L[i]? = some (k, v)) : ∃ e, es[i]? = some e ∧ e.key = k ∧ e.val = v ∧ i < es.size := by
  subst h
  rw [List.getElem?_map, Option.map_eq_some_iff] at hi
  obtain ⟨e, he, q⟩ := hi
  rw [Array.getElem?_toList] at he
  cases q
  exact ⟨e, he, rfl, rfl, (Array.getElem?_eq_some_iff.1 he).1⟩
theorem find_at {es : Array MapEntry} {clock : Nat} {d : TypeDesc} {key : Value} (hs : Stamped es clock) (hks : ∀ x ∈ es.toList, IsKey d x.key) (hk : IsKey d key) {i : Nat} {e : MapEntry} (hi : es[i]? = some e) (he : e.key = key) :
    Instr.findNow d key es.toList 0 = some (some (i, e.val)) := by
  rcases findNow_spec hk es.toList 0 hks with ⟨-, f2⟩ | ⟨j, x, f1, f2, f3⟩
  · exact absurd he (f2 e (Array.mem_toList_iff.2 (Array.mem_of_getElem? hi)))
  · have hj : (es.toList.map (·.key))[j]? = some key := by rw [List.getElem?_map, f2, Option.map_some, f3]
    have hi2 : (es.toList.map (·.key))[i]? = some key := by rw [List.getElem?_map, Array.getElem?_toList, hi, Option.map_some, he]
    have hij : j = i := by
      have h1 := (List.getElem?_eq_some_iff.1 hj).1
      have h2 := (List.getElem?_eq_some_iff.1 hi2).1
      exact (List.getElem_inj hs.2.2 (h₀ := h1) (h₁ := h2)).1 (by rw [(List.getElem?_eq_some_iff.1 hj).2, (List.getElem?_eq_some_iff.1 hi2).2])
    subst hij
    have : x = e := by rw [Array.getElem?_toList, hi] at f2; exact (Option.some.inj f2).symm
    rw [f1, this, Nat.zero_add]
theorem find_no {es : Array MapEntry} {d : TypeDesc} {key : Value} {L : List (Value × Value)} (hL : es.toList.map (fun x => (x.key, x.val)) = L) (hks : ∀ x ∈ es.toList, IsKey d x.key) (hk : IsKey d key) (hn : ∀ x ∈ L, x.1 ≠ key) :
    Instr.findNow d key es.toList 0 = some none := by
  rcases findNow_spec hk es.toList 0 hks with ⟨f1, -⟩ | ⟨j, x, -, f2, f3⟩
  · exact f1
  · subst hL
    exact absurd f3 (hn (x.key, x.val) (List.mem_map.2 ⟨x, List.mem_of_getElem? f2, rfl⟩))
theorem erase_map {α β : Type} (f : α → β) : ∀ (l : List α) (i : Nat), (l.eraseIdx i).map f = (l.map f).eraseIdx i
  | [], _ => rfl
  | _ :: _, 0 => rfl
  | x :: l, i + 1 => by simp [erase_map f l i]
section
variable {P : Program} {w : World} {b : Nat} {d : TypeDesc} {L : List (Value × Value)} {t k e : TypeId} {key : Value}
theorem MapL.look_no (h : MapL w b d L) (ht : P.underlying t = some (.map k e)) (hd : P.underlying k = some d) (hk : IsKey d key) (hn : ∀ x ∈ L, x.1 ≠ key) {z : Value} (hz : (zeroValue e).run P w = .ok z w) (ok : Bool) :
    (Instr.lookup t (.map (some b)) key ok).run P w = .ok (if ok then .tuple #[z, .bool false] else z) w := by
  obtain ⟨es, clock, hb, hs, hks, hL⟩ := h
  have f := find_no hL hks hk hn
  simp [Instr.lookup, run_underlying ht, MapKept.run_getObj_map hb, MapKept.run_checkKey hd hk, MapKept.run_findKey hd f, hz, Result.andThen]
theorem MapL.look_at (h : MapL w b d L) (ht : P.underlying t = some (.map k e)) (hd : P.underlying k = some d) (hk : IsKey d key) {i : Nat} {v : Value} (hi : L[i]? = some (key, v)) (ok : Bool) :
    (Instr.lookup t (.map (some b)) key ok).run P w = .ok (if ok then .tuple #[v, .bool true] else v) w := by
  obtain ⟨es, clock, hb, hs, hks, hL⟩ := h
  obtain ⟨x, hx, e1, e2, -⟩ := map_at hL hi
  have f := find_at hs hks hk hx e1
  rw [e2] at f
  simp [Instr.lookup, run_underlying ht, MapKept.run_getObj_map hb, MapKept.run_checkKey hd hk, MapKept.run_findKey hd f, Result.andThen]
theorem MapL.put_no (h : MapL w b d L) (ht : P.underlying t = some (.map k e)) (hd : P.underlying k = some d) (hk : IsKey d key) (hn : ∀ x ∈ L, x.1 ≠ key) (v : Value) :
    ∃ w', (Instr.mapUpdate t (.map (some b)) key v).run P w = .ok () w' ∧ MapL w' b d (L ++ [(key, v)]) ∧ Mod (· = b) w w' := by
  obtain ⟨es, clock, hb, hs, hks, hL⟩ := h
  have f := find_no hL hks hk hn
  refine ⟨_, by simp [Instr.mapUpdate, run_underlying ht, MapKept.run_getObj_map hb, MapKept.run_checkKey hd hk, MapKept.run_findKey hd f, MapKept.run_setObj_map _ hb, Result.andThen]; rfl, ⟨_, _, (MapKept.heap_set hb).1, stamped_push hs (fun x hx q => ?_), fun x hx => ?_, ?_⟩, Mod.setObjL _⟩
  · subst hL
    exact hn (x.key, x.val) (List.mem_map.2 ⟨x, hx, rfl⟩) q
  · simp only [Array.toList_push, List.mem_append, List.mem_singleton] at hx
    rcases hx with hx | rfl
    · exact hks x hx
    · exact hk
  · rw [Array.toList_push, List.map_append, hL]
    rfl
theorem map_modify {es : Array MapEntry} {i : Nat} {x : MapEntry} (f : MapEntry → MapEntry) (hi : es[i]? = some x) : (es.modify i f).toList.map (fun x => (x.key, x.val)) = (es.toList.map (fun x => (x.key, x.val))).set i ((f x).key, (f x).val) := by
  have hlt := (Array.getElem?_eq_some_iff.1 hi).1
  apply List.ext_getElem?
  intro j
  rw [List.getElem?_map, Array.getElem?_toList, Array.getElem?_modify, List.getElem?_set, List.length_map, Array.length_toList, List.getElem?_map, Array.getElem?_toList]
  by_cases q : i = j
  · subst q
    rw [if_pos rfl, if_pos rfl, if_pos hlt, hi]
    rfl
  · rw [if_neg q, if_neg q]
theorem MapL.put_at (h : MapL w b d L) (ht : P.underlying t = some (.map k e)) (hd : P.underlying k = some d) (hk : IsKey d key) {i : Nat} {u : Value} (hi : L[i]? = some (key, u)) (v : Value) :
    ∃ w', (Instr.mapUpdate t (.map (some b)) key v).run P w = .ok () w' ∧ MapL w' b d (L.set i (key, v)) ∧ Mod (· = b) w w' := by
  obtain ⟨es, clock, hb, hs, hks, hL⟩ := h
  obtain ⟨x, hx, e1, e2, -⟩ := map_at hL hi
  have f := find_at hs hks hk hx e1
  refine ⟨{ w with heap := w.heap.setIfInBounds b (.map (es.modify i fun e => { e with key := key, val := v }) clock) }, by simp [Instr.mapUpdate, run_underlying ht, MapKept.run_getObj_map hb, MapKept.run_checkKey hd hk, MapKept.run_findKey hd f, MapKept.run_setObj_map _ hb, Result.andThen, hx, e1, MapKept.run_keyThatStays hk], ⟨_, _, (MapKept.heap_set hb).1, stamped_modify hs _ _ (fun _ _ => rfl) (fun y _ q => ?_), isKey_modify hks _ _ (fun y q => ?_), ?_⟩, Mod.setObjL _⟩
  · rw [hx] at q; cases q; exact e1.symm
  · rw [hx] at q; cases q; exact e1.symm
  · rw [map_modify _ hx, hL]
theorem MapL.del_at (h : MapL w b d L) (ht : P.underlying t = some (.map k e)) (hd : P.underlying k = some d) (hk : IsKey d key) {i : Nat} {u : Value} (hi : L[i]? = some (key, u)) (ty : TypeId) :
    ∃ w', (Builtin.delete_ #[t, k] ty #[.map (some b), key]).run P w = .ok (.tuple #[]) w' ∧ MapL w' b d (L.eraseIdx i) ∧ Mod (· = b) w w' := by
  obtain ⟨es, clock, hb, hs, hks, hL⟩ := h
  obtain ⟨x, hx, e1, e2, hlt⟩ := map_at hL hi
  have f := find_at hs hks hk hx e1
  have he : (es.eraseIdxIfInBounds i).toList = es.toList.eraseIdx i := by
    unfold Array.eraseIdxIfInBounds
    rw [dif_pos hlt, Array.toList_eraseIdx]
  refine ⟨_, by simp [Builtin.delete_, run_underlying ht, MapKept.run_getObj_map hb, MapKept.run_checkKey hd hk, MapKept.run_findKey hd f, MapKept.run_setObj_map _ hb, Result.andThen]; rfl, ⟨_, _, (MapKept.heap_set hb).1, stamped_erase hs _, fun y hy => ?_, ?_⟩, Mod.setObjL _⟩
  · rw [he] at hy
    exact hks y ((List.eraseIdx_sublist _ _).subset hy)
  · rw [he, ← hL, erase_map]
theorem MapL.len (h : MapL w b d L) (ht : P.underlying t = some (.map k e)) (ty : TypeId) : (Builtin.len_ #[t] ty #[.map (some b)]).run P w = .ok (.int .i64 L.length) w := by
  obtain ⟨es, clock, hb, hs, hks, hL⟩ := h
  have hl : es.size = L.length := by rw [← hL, List.length_map, Array.length_toList]
  simp [Builtin.len_, run_underlying ht, MapKept.run_getObj_map hb, Result.andThen, goInt, hl]
end
end Go.Proofs.YtnflhjagmngimaaGreatDoor
