/-
  A map of strings to the truth 'true' that a call has made: a set. Its look-up and its store, for a walk. Over any program. No condition.
-/
import Derived.Test.YtnhgichiedninaaDoorBase
import Derived.Test.YtnhgichiedninaaDoorBytes
import Derived.Maps.OwnOps
import Derived.MapKept
import Derived.Carry
namespace Go.Proofs.YtnhgichiedninaaDoor
set_option linter.unusedSimpArgs false
set_option linter.unusedVariables false
open Go.RowKit Go.MapKept

/-- Block b is a map; its keys are just the strings of S, and each has the element true. -/
def SetAt (w : World) (b : Nat) (S : List ByteArray) : Prop :=
  ∃ es clock, w.heap[b]? = some (.map es clock) ∧ (∀ x ∈ es.toList, IsKey .string x.key ∧ x.val = .bool true) ∧ ∀ s : ByteArray, (∃ x ∈ es.toList, x.key = .string s) ↔ s ∈ S

theorem SetAt.of_heap {w w' : World} {b : Nat} {S : List ByteArray} (h : SetAt w b S) (e : w'.heap[b]? = w.heap[b]?) : SetAt w' b S := by
  obtain ⟨es, clock, hb, h1, h2⟩ := h
  exact ⟨es, clock, e.trans hb, h1, h2⟩
theorem SetAt.lt {w : World} {b : Nat} {S : List ByteArray} (h : SetAt w b S) : b < w.heap.size := by
  obtain ⟨es, clock, hb, -⟩ := h
  exact (Array.getElem?_eq_some_iff.1 hb).1
theorem SetAt.alloc {w : World} {b : Nat} {S : List ByteArray} (h : SetAt w b S) (o : Obj) : SetAt (w.alloc o) b S := h.of_heap (Below.heap_alloc w o b h.lt)
theorem SetAt.drew {w : World} {b : Nat} {S : List ByteArray} (h : SetAt w b S) : SetAt w.drew b S := h
theorem SetAt.other {w : World} {b : Nat} {S : List ByteArray} {p : Addr} {u : Value} (hp : b ≠ p.block) (h : SetAt w b S) : SetAt (w.setCell p u) b S := h.of_heap (Below.heap_setCell w p u b hp)
theorem SetAt.mod {T : Nat → Prop} {w w' : World} {b : Nat} {S : List ByteArray} (h : SetAt w b S) (hm : Mod T w w') (hn : ¬ T b) : SetAt w' b S := h.of_heap (hm.block b h.lt hn)
theorem SetAt.made (w : World) : SetAt (w.alloc (.map #[] 0)) w.heap.size [] :=
  ⟨#[], 0, (MapKept.heap_alloc w _).1, by simp, by simp⟩
theorem SetAt.madeAt {w : World} {b : Nat} (h : b = w.heap.size) : SetAt (w.alloc (.map #[] 0)) b [] := h ▸ SetAt.made w

theorem key_is (s : ByteArray) : IsKey .string (.string s) := by simp [IsKey]

theorem SetAt.lookup {P : Program} {w : World} {b : Nat} {S : List ByteArray} {t k e : TypeId} (h : SetAt w b S) (ht : P.underlying t = some (.map k e)) (hk : P.underlying k = some .string) (hz : (zeroValue e).run P w = .ok (.bool false) w) (s : ByteArray) :
    (Instr.lookup t (.map (some b)) (.string s) false).run P w = .ok (.bool (hasB S s)) w := by
  obtain ⟨es, clock, hb, h1, h2⟩ := h
  rcases findNow_spec (key_is s) es.toList 0 (fun x hx => (h1 x hx).1) with ⟨f1, f2⟩ | ⟨j, x, f1, f2, f3⟩
  · have hn : s ∉ S := fun hs => by
      obtain ⟨x, hx, e⟩ := (h2 s).2 hs
      exact f2 x hx e
    simp [Instr.lookup, run_underlying ht, MapKept.run_getObj_map hb, MapKept.run_checkKey hk (key_is s), MapKept.run_findKey hk f1, hz, Result.andThen, hasB_no hn]
  · have hx := List.mem_of_getElem? f2
    have hs : s ∈ S := (h2 s).1 ⟨x, hx, f3⟩
    simp [Instr.lookup, run_underlying ht, MapKept.run_getObj_map hb, MapKept.run_checkKey hk (key_is s), MapKept.run_findKey hk f1, Result.andThen, hasB_yes hs, (h1 x hx).2]

theorem Mod.setObj {w : World} {b : Nat} (o : Obj) : Mod (· = b) w { w with heap := w.heap.setIfInBounds b o } :=
  ⟨rfl, rfl, rfl, by simp, fun k hk hn => by simp [Ne.symm hn]⟩

theorem SetAt.update {P : Program} {w : World} {b : Nat} {S : List ByteArray} {t k e : TypeId} (h : SetAt w b S) (ht : P.underlying t = some (.map k e)) (hk : P.underlying k = some .string) (s : ByteArray) :
    ∃ w', (Instr.mapUpdate t (.map (some b)) (.string s) (.bool true)).run P w = .ok () w' ∧ SetAt w' b (s :: S) ∧ Mod (· = b) w w' := by
  obtain ⟨es, clock, hb, h1, h2⟩ := h
  rcases findNow_spec (key_is s) es.toList 0 (fun x hx => (h1 x hx).1) with ⟨f1, f2⟩ | ⟨j, x, f1, f2, f3⟩
  · refine ⟨_, by simp [Instr.mapUpdate, run_underlying ht, MapKept.run_getObj_map hb, MapKept.run_checkKey hk (key_is s), MapKept.run_findKey hk f1, MapKept.run_setObj_map _ hb, Result.andThen]; rfl, ⟨_, _, (MapKept.heap_set hb).1, ?_, ?_⟩, Mod.setObj _⟩
    · intro x hx
      simp only [Array.toList_push, List.mem_append, List.mem_singleton] at hx
      rcases hx with hx | rfl
      · exact h1 x hx
      · exact ⟨key_is s, rfl⟩
    · intro s'
      simp only [Array.toList_push, List.mem_append, List.mem_cons, List.not_mem_nil, or_false]
      constructor
      · rintro ⟨x, hx | rfl, e⟩
        · exact .inr ((h2 s').1 ⟨x, hx, e⟩)
        · simp at e
          exact .inl e.symm
      · rintro (rfl | hs)
        · exact ⟨_, .inr rfl, rfl⟩
        · obtain ⟨x, hx, e⟩ := (h2 s').2 hs
          exact ⟨x, .inl hx, e⟩
  · have hx := List.mem_of_getElem? f2
    have fe : es[j]? = some x := by simpa using f2
    have hkk : (((es[j]?).map (·.key)).getD (.string s)) = .string s := by rw [fe]; simpa using f3
    refine ⟨_, by simp [Instr.mapUpdate, run_underlying ht, MapKept.run_getObj_map hb, MapKept.run_checkKey hk (key_is s), MapKept.run_findKey hk f1, MapKept.run_setObj_map _ hb, Result.andThen, hkk, MapKept.run_keyThatStays (key_is s), fe, f3]; rfl, ⟨_, _, (MapKept.heap_set hb).1, ?_, ?_⟩, Mod.setObj _⟩
    · intro y hy
      obtain ⟨i, hi⟩ := List.mem_iff_getElem?.1 hy
      simp only [Array.getElem?_toList, Array.getElem?_modify] at hi
      split at hi
      · next e =>
        subst e
        rw [fe] at hi
        simp at hi
        subst hi
        exact ⟨key_is s, rfl⟩
      · exact h1 y (Array.mem_toList_iff.2 (Array.mem_of_getElem? hi))
    · intro s'
      have hs : s ∈ S := (h2 s).1 ⟨x, hx, f3⟩
      have hkeys : ((es.modify j fun e => { e with key := .string s, val := .bool true }).toList.map (·.key)) = es.toList.map (·.key) := modify_keys j _ (fun e he => by rw [fe] at he; cases he; exact f3.symm)
      have hiff : ∀ (l : List MapEntry), (∃ y ∈ l, y.key = .string s') ↔ (.string s' : Value) ∈ l.map (·.key) := fun l => by simp [List.mem_map]
      rw [hiff, hkeys, ← hiff, h2 s']
      constructor
      · exact fun a => .tail _ a
      · intro a
        cases a with
        | head => exact hs
        | tail _ a => exact a

theorem wpList_lookup_set {P : Program} (w : World) {ops : Array Oper} {rest : List Oper} {o : Oper} {a : Act} {Q : Exit → Act → World → Prop}
    (hg : o.guard = none) (m x : Operand) (t : TypeId) (hop : o.op = Op.lookup t m x false)
    (k e : TypeId) (ht : P.underlying t = some (.map k e)) (hk : P.underlying k = some .string) (hz : ∀ w, (zeroValue e).run P w = .ok (.bool false) w) (b : Nat) (S : List ByteArray)
    (hm : a.eval m = .map (some b)) (hown : SetAt w b S) (s : ByteArray) (hx : a.eval x = .string s)
    (hK : wpList P ops Q rest (a.put o.dst (.bool (hasB S s))) w) :
    wpList P ops Q (o :: rest) a w := by
  refine wpList_plain hg fun K' hK' => ?_
  unfold Oper.wp
  simp [execOp, hop, hm, hx, hown.lookup ht hk (hz w) s, Result.andThen]
  exact hK' _ _ hK

theorem wpList_mapUpdate_set {P : Program} (w : World) {ops : Array Oper} {rest : List Oper} {o : Oper} {a : Act} {Q : Exit → Act → World → Prop}
    (hg : o.guard = none) (m x v : Operand) (t : TypeId) (hop : o.op = Op.mapUpdate t m x v)
    (k e : TypeId) (ht : P.underlying t = some (.map k e)) (hk : P.underlying k = some .string) (b : Nat) (S : List ByteArray)
    (hm : a.eval m = .map (some b)) (hown : SetAt w b S) (s : ByteArray) (hx : a.eval x = .string s) (hv : a.eval v = .bool true)
    (hK : ∀ w', SetAt w' b (s :: S) → Mod (· = b) w w' → wpList P ops Q rest (a.put o.dst undef) w') :
    wpList P ops Q (o :: rest) a w := by
  refine wpList_plain hg fun K' hK' => ?_
  obtain ⟨w', hrun, r1, r2⟩ := hown.update ht hk s
  unfold Oper.wp
  simp [execOp, hop, hm, hx, hv, hrun, Result.andThen]
  exact hK' _ _ (hK w' r1 r2)
end Go.Proofs.YtnhgichiedninaaDoor
