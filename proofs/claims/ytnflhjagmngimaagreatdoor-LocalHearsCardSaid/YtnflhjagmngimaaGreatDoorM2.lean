/-
  Several texts in one, in their build order. A map that a call has made, with keys of one plain kind: its entries in the order in which they lie; look-up, store, delete, length, an entry turned in place. Over any program. No condition.
-/
import Derived.Test.YtnflhjagmngimaaGreatDoorM1
import Derived.Maps.OwnOps
import Derived.MapKept
import Derived.Carry
namespace Go.Proofs.YtnflhjagmngimaaGreatDoor
set_option linter.unusedSimpArgs false
set_option linter.unusedVariables false
open Go.RowKit Go.MapKept

/-- Block b is a map of keys of kind d; its entries are L, in the order in which they lie. -/
def MapL (w : World) (b : Nat) (d : TypeDesc) (L : List (Value × Value)) : Prop :=
  ∃ es clock, w.heap[b]? = some (.map es clock) ∧ Stamped es clock ∧ (∀ x ∈ es.toList, IsKey d x.key) ∧ es.toList.map (fun x => (x.key, x.val)) = L
theorem MapL.of_heap {w w' : World} {b : Nat} {d : TypeDesc} {L : List (Value × Value)} (h : MapL w b d L) (e : w'.heap[b]? = w.heap[b]?) : MapL w' b d L := by
  obtain ⟨es, clock, hb, h1⟩ := h
  exact ⟨es, clock, e.trans hb, h1⟩
theorem MapL.lt {w : World} {b : Nat} {d : TypeDesc} {L : List (Value × Value)} (h : MapL w b d L) : b < w.heap.size := by
  obtain ⟨es, clock, hb, -⟩ := h
  exact (Array.getElem?_eq_some_iff.1 hb).1
theorem MapL.mod {T : Nat → Prop} {w w' : World} {b : Nat} {d : TypeDesc} {L : List (Value × Value)} (h : MapL w b d L) (hm : Mod T w w') (hn : ¬ T b) : MapL w' b d L := h.of_heap (hm.block b h.lt hn)
theorem MapL.new {w w' : World} {b : Nat} {d : TypeDesc} {L : List (Value × Value)} (h : MapL w b d L) (hm : New w w') : MapL w' b d L := h.mod hm (fun q => q)
theorem MapL.made (w : World) (d : TypeDesc) {b : Nat} (hb : b = w.heap.size) : MapL (w.alloc (.map #[] 0)) b d [] := by
  subst hb
  exact ⟨#[], 0, (MapKept.heap_alloc w _).1, stamped_empty 0, by simp, rfl⟩
theorem Mod.setObjL {w : World} {b : Nat} (o : Obj) : Mod (· = b) w { w with heap := w.heap.setIfInBounds b o } :=
  ⟨rfl, rfl, rfl, by simp, fun k hk hn => by simp [Ne.symm hn]⟩
theorem MapL.keys {w : World} {b : Nat} {d : TypeDesc} {L : List (Value × Value)} (h : MapL w b d L) : (L.map (·.1)).Nodup ∧ ∀ x ∈ L, IsKey d x.1 := by
  obtain ⟨es, clock, hb, hs, hk, rfl⟩ := h
  refine ⟨?_, fun x hx => ?_⟩
  · rw [List.map_map]; exact hs.2.2
  · obtain ⟨e, he, rfl⟩ := List.mem_map.1 hx
    exact hk e he
theorem map_at {es : Array MapEntry} {L : List (Value × Value)} (h : es.toList.map (fun x => (x.key, x.val)) = L) {i : Nat} {k v : Value} (hi : L[i]? = some (k, v)) : ∃ e, es[i]? = some e ∧ e.key = k ∧ e.val = v ∧ i < es.size := by
  subst h
  rw [List.getElem?_map, Option.map_eq_some_iff] at hi
  obtain ⟨e, he, q⟩ := hi
  rw [Array.getElem?_toList] at he
  cases q
  exact ⟨e, he, rfl, rfl, (Array.getElem?_eq_some_iff.1 he).1⟩
theorem find_at {es : Array MapEntry} {clock : Nat} {d : TypeDesc} {key : Value} (hs : Stamped es clock) (hks : ∀ x ∈ es.toList, IsKey d x.key) (hk : IsKey d key) {i : Nat} {e : MapEntry} (hi : es[i]? = some e) (he : e.key = key) :
    Instr.findNow d key es.toList 0 = some (some (i, e.val)) := by
  rcases findNow_spec hk es.toList 0 hks with ⟨-, f2⟩ | ⟨j, x, f1, f2, f3⟩
  · exact absurd he (f2 e (Array.mem_toList_iff.2 (Array.mem_of_getElem? hi)))
  · have hj : (es.toList.map (·.key))[j]? = some key := by rw [List.getElem?_map, f2, Option.map_some, f3]
    have hi2 : (es.toList.map (·.key))[i]? = some key := by rw [List.getElem?_map, Array.getElem?_toList, hi, Option.map_some, he]
    have hij : j = i := by
      have h1 := (List.getElem?_eq_some_iff.1 hj).1
      have h2 := (List.getElem?_eq_some_iff.1 hi2).1
      exact (List.getElem_inj hs.2.2 (h₀ := h1) (h₁ := h2)).1 (by rw [(List.getElem?_eq_some_iff.1 hj).2, (List.getElem?_eq_some_iff.1 hi2).2])
    subst hij
    have : x = e := by rw [Array.getElem?_toList, hi] at f2; exact (Option.some.inj f2).symm
    rw [f1, this, Nat.zero_add]
theorem find_no {es : Array MapEntry} {d : TypeDesc} {key : Value} {L : List (Value × Value)} (hL : es.toList.map (fun x => (x.key, x.val)) = L) (hks : ∀ x ∈ es.toList, IsKey d x.key) (hk : IsKey d key) (hn : ∀ x ∈ L, x.1 ≠ key) :
    Instr.findNow d key es.toList 0 = some none := by
  rcases findNow_spec hk es.toList 0 hks with ⟨f1, -⟩ | ⟨j, x, -, f2, f3⟩
  · exact f1
  · subst hL
    exact absurd f3 (hn (x.key, x.val) (List.mem_map.2 ⟨x, List.mem_of_getElem? f2, rfl⟩))
theorem erase_map {α β : Type} (f : α → β) : ∀ (l : List α) (i : Nat), (l.eraseIdx i).map f = (l.map f).eraseIdx i
  | [], _ => rfl
  | _ :: _, 0 => rfl
  | x :: l, i + 1 => by simp [erase_map f l i]
section
variable {P : Program} {w : World} {b : Nat} {d : TypeDesc} {L : List (Value × Value)} {t k e : TypeId} {key : Value}
theorem MapL.look_no (h : MapL w b d L) (ht : P.underlying t = some (.map k e)) (hd : P.underlying k = some d) (hk : IsKey d key) (hn : ∀ x ∈ L, x.1 ≠ key) {z : Value} (hz : (zeroValue e).run P w = .ok z w) (ok : Bool) :
    (Instr.lookup t (.map (some b)) key ok).run P w = .ok (if ok then .tuple #[z, .bool false] else z) w := by
  obtain ⟨es, clock, hb, hs, hks, hL⟩ := h
  have f := find_no hL hks hk hn
  simp [Instr.lookup, run_underlying ht, MapKept.run_getObj_map hb, MapKept.run_checkKey hd hk, MapKept.run_findKey hd f, hz, Result.andThen]
theorem MapL.look_at (h : MapL w b d L) (ht : P.underlying t = some (.map k e)) (hd : P.underlying k = some d) (hk : IsKey d key) {i : Nat} {v : Value} (hi : L[i]? = some (key, v)) (ok : Bool) :
    (Instr.lookup t (.map (some b)) key ok).run P w = .ok (if ok then .tuple #[v, .bool true] else v) w := by
  obtain ⟨es, clock, hb, hs, hks, hL⟩ := h
  obtain ⟨x, hx, e1, e2, -⟩ := map_at hL hi
  have f := find_at hs hks hk hx e1
  rw [e2] at f
  simp [Instr.lookup, run_underlying ht, MapKept.run_getObj_map hb, MapKept.run_checkKey hd hk, MapKept.run_findKey hd f, Result.andThen]
theorem MapL.put_no (h : MapL w b d L) (ht : P.underlying t = some (.map k e)) (hd : P.underlying k = some d) (hk : IsKey d key) (hn : ∀ x ∈ L, x.1 ≠ key) (v : Value) :
    ∃ w', (Instr.mapUpdate t (.map (some b)) key v).run P w = .ok () w' ∧ MapL w' b d (L ++ [(key, v)]) ∧ Mod (· = b) w w' := by
  obtain ⟨es, clock, hb, hs, hks, hL⟩ := h
  have f := find_no hL hks hk hn
  refine ⟨_, by simp [Instr.mapUpdate, run_underlying ht, MapKept.run_getObj_map hb, MapKept.run_checkKey hd hk, MapKept.run_findKey hd f, MapKept.run_setObj_map _ hb, Result.andThen]; rfl, ⟨_, _, (MapKept.heap_set hb).1, stamped_push hs (fun x hx q => ?_), fun x hx => ?_, ?_⟩, Mod.setObjL _⟩
  · subst hL
    exact hn (x.key, x.val) (List.mem_map.2 ⟨x, hx, rfl⟩) q
  · simp only [Array.toList_push, List.mem_append, List.mem_singleton] at hx
    rcases hx with hx | rfl
    · exact hks x hx
    · exact hk
  · rw [Array.toList_push, List.map_append, hL]
    rfl
theorem map_modify {es : Array MapEntry} {i : Nat} {x : MapEntry} (f : MapEntry → MapEntry) (hi : es[i]? = some x) : (es.modify i f).toList.map (fun x => (x.key, x.val)) = (es.toList.map (fun x => (x.key, x.val))).set i ((f x).key, (f x).val) := by
  have hlt := (Array.getElem?_eq_some_iff.1 hi).1
  apply List.ext_getElem?
  intro j
  rw [List.getElem?_map, Array.getElem?_toList, Array.getElem?_modify, List.getElem?_set, List.length_map, Array.length_toList, List.getElem?_map, Array.getElem?_toList]
  by_cases q : i = j
  · subst q
    rw [if_pos rfl, if_pos rfl, if_pos hlt, hi]
    rfl
  · rw [if_neg q, if_neg q]
theorem MapL.put_at (h : MapL w b d L) (ht : P.underlying t = some (.map k e)) (hd : P.underlying k = some d) (hk : IsKey d key) {i : Nat} {u : Value} (hi : L[i]? = some (key, u)) (v : Value) :
    ∃ w', (Instr.mapUpdate t (.map (some b)) key v).run P w = .ok () w' ∧ MapL w' b d (L.set i (key, v)) ∧ Mod (· = b) w w' := by
  obtain ⟨es, clock, hb, hs, hks, hL⟩ := h
  obtain ⟨x, hx, e1, e2, -⟩ := map_at hL hi
  have f := find_at hs hks hk hx e1
  refine ⟨{ w with heap := w.heap.setIfInBounds b (.map (es.modify i fun e => { e with key := key, val := v }) clock) }, by simp [Instr.mapUpdate, run_underlying ht, MapKept.run_getObj_map hb, MapKept.run_checkKey hd hk, MapKept.run_findKey hd f, MapKept.run_setObj_map _ hb, Result.andThen, hx, e1, MapKept.run_keyThatStays hk], ⟨_, _, (MapKept.heap_set hb).1, stamped_modify hs _ _ (fun _ _ => rfl) (fun y _ q => ?_), isKey_modify hks _ _ (fun y q => ?_), ?_⟩, Mod.setObjL _⟩
  · rw [hx] at q; cases q; exact e1.symm
  · rw [hx] at q; cases q; exact e1.symm
  · rw [map_modify _ hx, hL]
theorem MapL.del_no (h : MapL w b d L) (ht : P.underlying t = some (.map k e)) (hd : P.underlying k = some d) (hk : IsKey d key) (hn : ∀ x ∈ L, x.1 ≠ key) (ty : TypeId) :
    ∃ w', (Builtin.delete_ #[t, k] ty #[.map (some b), key]).run P w = .ok (.tuple #[]) w' ∧ MapL w' b d L ∧ Mod (· = b) w w' := by
  obtain ⟨es, clock, hb, hs, hks, hL⟩ := h
  have f := find_no hL hks hk hn
  exact ⟨_, by simp [Builtin.delete_, run_underlying ht, MapKept.run_getObj_map hb, MapKept.run_checkKey hd hk, MapKept.run_findKey hd f, MapKept.run_setObj_map _ hb, Result.andThen], ⟨_, _, (MapKept.heap_set hb).1, hs, hks, hL⟩, Mod.setObjL _⟩
theorem MapL.del_at (h : MapL w b d L) (ht : P.underlying t = some (.map k e)) (hd : P.underlying k = some d) (hk : IsKey d key) {i : Nat} {u : Value} (hi : L[i]? = some (key, u)) (ty : TypeId) :
    ∃ w', (Builtin.delete_ #[t, k] ty #[.map (some b), key]).run P w = .ok (.tuple #[]) w' ∧ MapL w' b d (L.eraseIdx i) ∧ Mod (· = b) w w' := by
  obtain ⟨es, clock, hb, hs, hks, hL⟩ := h
  obtain ⟨x, hx, e1, e2, hlt⟩ := map_at hL hi
  have f := find_at hs hks hk hx e1
  have he : (es.eraseIdxIfInBounds i).toList = es.toList.eraseIdx i := by
    unfold Array.eraseIdxIfInBounds
    rw [dif_pos hlt, Array.toList_eraseIdx]
  refine ⟨_, by simp [Builtin.delete_, run_underlying ht, MapKept.run_getObj_map hb, MapKept.run_checkKey hd hk, MapKept.run_findKey hd f, MapKept.run_setObj_map _ hb, Result.andThen]; rfl, ⟨_, _, (MapKept.heap_set hb).1, stamped_erase hs _, fun y hy => ?_, ?_⟩, Mod.setObjL _⟩
  · rw [he] at hy
    exact hks y ((List.eraseIdx_sublist _ _).subset hy)
  · rw [he, ← hL, erase_map]
theorem MapL.len (h : MapL w b d L) (ht : P.underlying t = some (.map k e)) (ty : TypeId) : (Builtin.len_ #[t] ty #[.map (some b)]).run P w = .ok (.int .i64 L.length) w := by
  obtain ⟨es, clock, hb, hs, hks, hL⟩ := h
  have hl : es.size = L.length := by rw [← hL, List.length_map, Array.length_toList]
  simp [Builtin.len_, run_underlying ht, MapKept.run_getObj_map hb, Result.andThen, goInt, hl]
/-- An entry that is there, read and written in place. -/
theorem MapL.entry_at (h : MapL w b d L) (ht : P.underlying t = some (.map k e)) (hd : P.underlying k = some d) (hk : IsKey d key) {i : Nat} {u : Value} (hi : L[i]? = some (key, u)) :
    ∃ (w1 : World) (n : Int), (Instr.mapEntry t (.map (some b)) key).run P w = .ok (.tuple #[u, .int .i64 n]) w1 ∧ MapL w1 b d L ∧ Mod (· = b) w w1 ∧
      ∀ (w2 : World) (v : Value), w2.heap[b]? = w1.heap[b]? → ∃ w3, (Instr.entryStore t (.map (some b)) (.int .i64 n) v).run P w2 = .ok () w3 ∧ MapL w3 b d (L.set i (key, v)) ∧ Mod (· = b) w2 w3 := by
  obtain ⟨es, clock, hb, hs, hks, hL⟩ := h
  obtain ⟨x, hx, e1, e2, hlt⟩ := map_at hL hi
  have f := find_at hs hks hk hx e1
  rw [e2] at f
  have hs2 : Stamped (es.modify i fun e => { e with key := key }) clock := stamped_modify hs _ _ (fun _ _ => rfl) (fun y _ q => by rw [hx] at q; cases q; exact e1.symm)
  have hk2 : ∀ y ∈ (es.modify i fun e => { e with key := key }).toList, IsKey d y.key := isKey_modify hks _ _ (fun y q => by rw [hx] at q; cases q; exact e1.symm)
  have hx2 : (es.modify i fun e => { e with key := key })[i]? = some { x with key := key } := by rw [Array.getElem?_modify, if_pos rfl, hx]; rfl
  have hL2 : (es.modify i fun e => { e with key := key }).toList.map (fun x => (x.key, x.val)) = L := by
    rw [map_modify _ hx, hL]
    refine List.ext_getElem? (fun j => ?_)
    rw [List.getElem?_set]
    by_cases q : i = j
    · subst q
      rw [if_pos rfl, if_pos (List.getElem?_eq_some_iff.1 hi).1, hi, e2]
    · rw [if_neg q]
  refine ⟨{ w with heap := w.heap.setIfInBounds b (.map (es.modify i fun e => { e with key := key }) clock) }, (x.born : Int), by simp [Instr.mapEntry, run_underlying ht, MapKept.run_getObj_map hb, MapKept.run_checkKey hd hk, MapKept.run_findKey hd f, MapKept.run_setObj_map _ hb, Result.andThen, hx, e1, MapKept.run_keyThatStays hk, goInt], ⟨_, _, (MapKept.heap_set hb).1, hs2, hk2, hL2⟩, Mod.setObjL _, fun w2 v hw2 => ?_⟩
  generalize hes : (es.modify i fun e => { e with key := key }) = es2 at *
  have hb2 : w2.heap[b]? = some (.map es2 clock) := hw2.trans (MapKept.heap_set hb).1
  have hlt2 : i < es2.size := (Array.getElem?_eq_some_iff.1 hx2).1
  have hfi : es2.findIdx? (fun e => (e.born : Int) == (x.born : Int)) = some i := by
    rw [Array.findIdx?_eq_some_iff_getElem]
    have hxe : es2[i] = { x with key := key } := (Array.getElem?_eq_some_iff.1 hx2).2
    refine ⟨hlt2, by rw [hxe]; simp, fun j hj => ?_⟩
    have hjl : j < es2.size := by omega
    intro q
    rw [beq_iff_eq] at q
    have h1 : (es2.toList.map (·.born))[j]'(by simpa using hjl) = (es2.toList.map (·.born))[i]'(by simpa using hlt2) := by
      simp only [List.getElem_map, Array.getElem_toList, hxe]
      omega
    have := (List.getElem_inj hs2.2.1).1 h1
    omega
  refine ⟨{ w2 with heap := w2.heap.setIfInBounds b (.map (es2.modify i fun e => { e with val := v }) clock) }, by simp [Instr.entryStore, MapKept.run_getObj_map hb2, hfi, MapKept.run_setObj_map _ hb2, Result.andThen, asInt, asIntOf], ⟨_, _, (MapKept.heap_set hb2).1, stamped_modify hs2 _ _ (fun _ _ => rfl) (fun _ _ _ => rfl), isKey_modify hk2 _ _ (fun _ _ => rfl), ?_⟩, Mod.setObjL _⟩
  rw [map_modify _ hx2, hL2]
/-- An entry that is not there: it is laid with the zero value, and written. -/
theorem MapL.entry_no (h : MapL w b d L) (ht : P.underlying t = some (.map k e)) (hd : P.underlying k = some d) (hk : IsKey d key) (hn : ∀ x ∈ L, x.1 ≠ key) {z : Value} (hz : (zeroValue e).run P w = .ok z w) :
    ∃ (w1 : World) (n : Int), (Instr.mapEntry t (.map (some b)) key).run P w = .ok (.tuple #[z, .int .i64 n]) w1 ∧ MapL w1 b d (L ++ [(key, z)]) ∧ Mod (· = b) w w1 ∧
      ∀ (w2 : World) (v : Value), w2.heap[b]? = w1.heap[b]? → ∃ w3, (Instr.entryStore t (.map (some b)) (.int .i64 n) v).run P w2 = .ok () w3 ∧ MapL w3 b d (L ++ [(key, v)]) ∧ Mod (· = b) w2 w3 := by
  obtain ⟨es, clock, hb, hs, hks, hL⟩ := h
  have f := find_no hL hks hk hn
  have hs2 : Stamped (es.push { key, val := z, born := clock }) (clock + 1) := stamped_push hs (fun x hx q => by
    subst hL
    exact hn (x.key, x.val) (List.mem_map.2 ⟨x, hx, rfl⟩) q)
  have hk2 : ∀ y ∈ (es.push { key, val := z, born := clock }).toList, IsKey d y.key := fun x hx => by
    simp only [Array.toList_push, List.mem_append, List.mem_singleton] at hx
    rcases hx with hx | rfl
    · exact hks x hx
    · exact hk
  have hL2 : (es.push { key, val := z, born := clock }).toList.map (fun x => (x.key, x.val)) = L ++ [(key, z)] := by
    rw [Array.toList_push, List.map_append, hL]
    rfl
  refine ⟨{ w with heap := w.heap.setIfInBounds b (.map (es.push { key, val := z, born := clock }) (clock + 1)) }, (clock : Int), by simp [Instr.mapEntry, run_underlying ht, MapKept.run_getObj_map hb, MapKept.run_checkKey hd hk, MapKept.run_findKey hd f, MapKept.run_setObj_map _ hb, Result.andThen, hz, goInt], ⟨_, _, (MapKept.heap_set hb).1, hs2, hk2, hL2⟩, Mod.setObjL _, fun w2 v hw2 => ?_⟩
  have hb2 : w2.heap[b]? = some (.map (es.push { key, val := z, born := clock }) (clock + 1)) := hw2.trans (MapKept.heap_set hb).1
  have hx2 : (es.push { key, val := z, born := clock })[es.size]? = some { key, val := z, born := clock } := by simp
  have hfi : (es.push { key, val := z, born := clock }).findIdx? (fun e => (e.born : Int) == (clock : Int)) = some es.size := by
    rw [Array.findIdx?_eq_some_iff_getElem]
    refine ⟨by simp, by simp, fun j hj => ?_⟩
    rw [Array.getElem_push_lt hj, beq_iff_eq]
    have := hs.1 es[j] (Array.mem_toList_iff.2 (Array.getElem_mem hj))
    omega
  have hl : es.size = L.length := by rw [← hL, List.length_map, Array.length_toList]
  refine ⟨{ w2 with heap := w2.heap.setIfInBounds b (.map ((es.push { key, val := z, born := clock }).modify es.size fun e => { e with val := v }) (clock + 1)) }, by simp [Instr.entryStore, MapKept.run_getObj_map hb2, Result.andThen, asInt, asIntOf, hfi, MapKept.run_setObj_map _ hb2], ⟨_, _, (MapKept.heap_set hb2).1, stamped_modify hs2 _ _ (fun _ _ => rfl) (fun _ _ _ => rfl), isKey_modify hk2 _ _ (fun _ _ => rfl), ?_⟩, Mod.setObjL _⟩
  rw [map_modify _ hx2, hL2, hl, List.set_append_right _ _ (Nat.le_refl _), Nat.sub_self]
  rfl
end
end Go.Proofs.YtnflhjagmngimaaGreatDoor
