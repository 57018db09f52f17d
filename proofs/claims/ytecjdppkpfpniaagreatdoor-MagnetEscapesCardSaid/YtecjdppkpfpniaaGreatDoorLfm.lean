/-
  A map of strings to functions that a call has made: its look-up and its store. Over any program. No condition.
-/
import Derived.Test.YtecjdppkpfpniaaGreatDoorBase
import Derived.Test.YtecjdppkpfpniaaGreatDoorBytes
import Derived.Maps.OwnOps
import Derived.MapKept
import Derived.Carry
namespace Go.Proofs.YtecjdppkpfpniaaGreatDoor
set_option linter.unusedSimpArgs false
set_option linter.unusedVariables false
open Go.RowKit Go.MapKept

/-- Block b is a map; its entries are just those of L. -/
def FunAt (w : World) (b : Nat) (L : List (ByteArray × Value)) : Prop :=
  ∃ es clock, w.heap[b]? = some (.map es clock) ∧ (∀ x ∈ es.toList, IsKey .string x.key) ∧ ∀ (s : ByteArray) v, (∃ x ∈ es.toList, x.key = .string s ∧ x.val = v) ↔ (s, v) ∈ L
theorem FunAt.of_heap {w w' : World} {b : Nat} {S : List (ByteArray × Value)} (h : FunAt w b S) (e : w'.heap[b]? = w.heap[b]?) : FunAt w' b S := by
  obtain ⟨es, clock, hb, h1, h2⟩ := h
  exact ⟨es, clock, e.trans hb, h1, h2⟩
theorem FunAt.lt {w : World} {b : Nat} {S : List (ByteArray × Value)} (h : FunAt w b S) : b < w.heap.size := by
  obtain ⟨es, clock, hb, -⟩ := h
  exact (Array.getElem?_eq_some_iff.1 hb).1
theorem FunAt.new {w w' : World} {b : Nat} {S : List (ByteArray × Value)} (h : FunAt w b S) (n : New w w') : FunAt w' b S := h.of_heap (n.block b h.lt (fun x => x))
theorem FunAt.made (w : World) : FunAt (w.alloc (.map #[] 0)) w.heap.size [] :=
  ⟨#[], 0, (MapKept.heap_alloc w _).1, by simp, by simp⟩
theorem fkey_is (s : ByteArray) : IsKey .string (.string s) := by simp [IsKey]
theorem FunAt.hit {P : Program} {w : World} {b : Nat} {S : List (ByteArray × Value)} {t k e : TypeId} (h : FunAt w b S) (ht : P.underlying t = some (.map k e)) (hk : P.underlying k = some .string) {s : ByteArray} {v : Value} (hv : (s, v) ∈ S) (hu : ∀ v', (s, v') ∈ S → v' = v) :
    (Instr.lookup t (.map (some b)) (.string s) true).run P w = .ok (.tuple #[v, .bool true]) w := by
  obtain ⟨es, clock, hb, h1, h2⟩ := h
  rcases findNow_spec (fkey_is s) es.toList 0 h1 with ⟨f1, f2⟩ | ⟨j, x, f1, f2, f3⟩
  · obtain ⟨x, hx, e1, e2⟩ := (h2 s v).2 hv
    exact absurd e1 (f2 x hx)
  · have hx := List.mem_of_getElem? f2
    have hs : x.val = v := hu _ ((h2 s x.val).1 ⟨x, hx, f3, rfl⟩)
    simp [Instr.lookup, run_underlying ht, MapKept.run_getObj_map hb, MapKept.run_checkKey hk (fkey_is s), MapKept.run_findKey hk f1, Result.andThen, hs]
theorem FunAt.miss {P : Program} {w : World} {b : Nat} {S : List (ByteArray × Value)} {t k e : TypeId} (h : FunAt w b S) (ht : P.underlying t = some (.map k e)) (hk : P.underlying k = some .string) {z : Value} (hz : (zeroValue e).run P w = .ok z w) {s : ByteArray} (hv : ∀ v, (s, v) ∉ S) :
    (Instr.lookup t (.map (some b)) (.string s) true).run P w = .ok (.tuple #[z, .bool false]) w := by
  obtain ⟨es, clock, hb, h1, h2⟩ := h
  rcases findNow_spec (fkey_is s) es.toList 0 h1 with ⟨f1, f2⟩ | ⟨j, x, f1, f2, f3⟩
  · simp [Instr.lookup, run_underlying ht, MapKept.run_getObj_map hb, MapKept.run_checkKey hk (fkey_is s), MapKept.run_findKey hk f1, hz, Result.andThen]
  · have hx := List.mem_of_getElem? f2
    exact absurd ((h2 s x.val).1 ⟨x, hx, f3, rfl⟩) (hv _)
theorem Mod.setObjF {w : World} {b : Nat} (o : Obj) : Mod (· = b) w { w with heap := w.heap.setIfInBounds b o } :=
  ⟨rfl, rfl, rfl, by simp, fun k hk hn => by simp [Ne.symm hn]⟩
theorem FunAt.update {P : Program} {w : World} {b : Nat} {S : List (ByteArray × Value)} {t k e : TypeId} (h : FunAt w b S) (ht : P.underlying t = some (.map k e)) (hk : P.underlying k = some .string) (s : ByteArray) (v : Value) (hn : ∀ v, (s, v) ∉ S) :
    ∃ w', (Instr.mapUpdate t (.map (some b)) (.string s) v).run P w = .ok () w' ∧ FunAt w' b ((s, v) :: S) ∧ Mod (· = b) w w' := by
  obtain ⟨es, clock, hb, h1, h2⟩ := h
  rcases findNow_spec (fkey_is s) es.toList 0 h1 with ⟨f1, f2⟩ | ⟨j, x, f1, f2, f3⟩
  · refine ⟨_, by simp [Instr.mapUpdate, run_underlying ht, MapKept.run_getObj_map hb, MapKept.run_checkKey hk (fkey_is s), MapKept.run_findKey hk f1, MapKept.run_setObj_map _ hb, Result.andThen]; rfl, ⟨_, _, (MapKept.heap_set hb).1, ?_, ?_⟩, Mod.setObjF _⟩
    · intro x hx
      simp only [Array.toList_push, List.mem_append, List.mem_singleton] at hx
      rcases hx with hx | rfl
      · exact h1 x hx
      · exact fkey_is s
    · intro s' v'
      simp only [Array.toList_push, List.mem_append, List.mem_cons, List.not_mem_nil, or_false, Prod.mk.injEq]
      constructor
      · rintro ⟨x, hx | rfl, e1, e2⟩
        · exact .inr ((h2 s' v').1 ⟨x, hx, e1, e2⟩)
        · simp at e1 e2
          exact .inl ⟨e1.symm, e2.symm⟩
      · rintro (⟨rfl, rfl⟩ | hs)
        · exact ⟨_, .inr rfl, rfl, rfl⟩
        · obtain ⟨x, hx, e1, e2⟩ := (h2 s' v').2 hs
          exact ⟨x, .inl hx, e1, e2⟩
  · have hx := List.mem_of_getElem? f2
    exact absurd ((h2 s x.val).1 ⟨x, hx, f3, rfl⟩) (hn _)
theorem wpList_mapUpdate_fun {P : Program} (w : World) {ops : Array Oper} {rest : List Oper} {o : Oper} {a : Act} {Q : Exit → Act → World → Prop}
    (hg : o.guard = none) (m x v : Operand) (t : TypeId) (hop : o.op = Op.mapUpdate t m x v)
    (k e : TypeId) (ht : P.underlying t = some (.map k e)) (hk : P.underlying k = some .string) (b : Nat) (S : List (ByteArray × Value))
    (hm : a.eval m = .map (some b)) (hown : FunAt w b S) (s : ByteArray) (u : Value) (hx : a.eval x = .string s) (hv : a.eval v = u) (hn : ∀ u, (s, u) ∉ S)
    (hK : ∀ w', FunAt w' b ((s, u) :: S) → Mod (· = b) w w' → wpList P ops Q rest (a.put o.dst undef) w') :
    wpList P ops Q (o :: rest) a w := by
  refine wpList_plain hg fun K' hK' => ?_
  obtain ⟨w', hrun, r1, r2⟩ := hown.update ht hk s u hn
  unfold Oper.wp
  simp [execOp, hop, hm, hx, hv, hrun, Result.andThen]
  exact hK' _ _ (hK w' r1 r2)
end Go.Proofs.YtecjdppkpfpniaaGreatDoor
