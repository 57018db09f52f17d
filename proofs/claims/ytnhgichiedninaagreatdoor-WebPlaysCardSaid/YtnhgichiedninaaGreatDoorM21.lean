/-
  Several texts in one, in their build order. A map of strings to the truth 'true' that a call has made: a set. Its look-up and its store, for a walk. Over any program. No condition. The walk of (*check).file: one file of a list is asked. Conditions: the check's two sets and the file lie as told.
-/
import Derived.Test.YtnhgichiedninaaGreatDoorM1
import Derived.Test.YtnhgichiedninaaGreatDoorM2
import Derived.Maps.OwnOps
import Derived.MapKept
import Derived.Carry
import Derived.Test.YtnhgichiedninaaGreatDoorM20
import Derived.Deep.RegionHeld3
import Derived.Deep.RegionWith
namespace Go.Proofs.YtnhgichiedninaaGreatDoor
set_option linter.unusedSimpArgs false
set_option linter.unusedVariables false
open Go.RowKit Go.MapKept

/-- Block b is a map; its keys are just the strings of S, and each has the element true. -/
def SetAt (w : World) (b : Nat) (S : List ByteArray) : Prop :=
  ∃ es clock, w.heap[b]? = some (.map es clock) ∧ (∀ x ∈ es.toList, IsKey .string x.key ∧ x.val = .bool true) ∧ ∀ s : ByteArray, (∃ x ∈ es.toList, x.key = .string s) ↔ s ∈ S

theorem SetAt.of_heap {w w' : World} {b : Nat} {S : List ByteArray} (h : SetAt w b S) (e : w'.heap[b]? = w.heap[b]?) : SetAt w' b S := by
  obtain ⟨es, clock, hb, h1, h2⟩ := h
  exact ⟨es, clock, e.trans hb, h1, h2⟩
theorem SetAt.lt {w : World} {b : Nat} {S : List ByteArray} (h : SetAt w b S) : b < w.heap.size := by
  obtain ⟨es, clock, hb, -⟩ := h
  exact (Array.getElem?_eq_some_iff.1 hb).1
theorem SetAt.alloc {w : World} {b : Nat} {S : List ByteArray} (h : SetAt w b S) (o : Obj) : SetAt (w.alloc o) b S := h.of_heap (Below.heap_alloc w o b h.lt)
theorem SetAt.drew {w : World} {b : Nat} {S : List ByteArray} (h : SetAt w b S) : SetAt w.drew b S := h
theorem SetAt.other {w : World} {b : Nat} {S : List ByteArray} {p : Addr} {u : Value} (hp : b ≠ p.block) (h : SetAt w b S) : SetAt (w.setCell p u) b S := h.of_heap (Below.heap_setCell w p u b hp)
theorem SetAt.mod {T : Nat → Prop} {w w' : World} {b : Nat} {S : List ByteArray} (h : SetAt w b S) (hm : Mod T w w') (hn : ¬ T b) : SetAt w' b S := h.of_heap (hm.block b h.lt hn)
theorem SetAt.made (w : World) : SetAt (w.alloc (.map #[] 0)) w.heap.size [] :=
  ⟨#[], 0, (MapKept.heap_alloc w _).1, by simp, by simp⟩
theorem SetAt.madeAt {w : World} {b : Nat} (h : b = w.heap.size) : SetAt (w.alloc (.map #[] 0)) b [] := h ▸ SetAt.made w

theorem key_is (s : ByteArray) : IsKey .string (.string s) := by simp [IsKey]

theorem SetAt.lookup {P : Program} {w : World} {b : Nat} {S : List ByteArray} {t k e : TypeId} (h : SetAt w b S) (ht : P.underlying t = some (.map k e)) (hk : P.underlying k = some .string) (hz : (zeroValue e).run P w = .ok (.bool false) w) (s : ByteArray) :
    (Instr.lookup t (.map (some b)) (.string s) false).run P w = .ok (.bool (hasB S s)) w := by
  obtain ⟨es, clock, hb, h1, h2⟩ := h
  rcases findNow_spec (key_is s) es.toList 0 (fun x hx => (h1 x hx).1) with ⟨f1, f2⟩ | ⟨j, x, f1, f2, f3⟩
  · have hn : s ∉ S := fun hs => by
      obtain ⟨x, hx, e⟩ := (h2 s).2 hs
      exact f2 x hx e
    simp [Instr.lookup, run_underlying ht, MapKept.run_getObj_map hb, MapKept.run_checkKey hk (key_is s), MapKept.run_findKey hk f1, hz, Result.andThen, hasB_no hn]
  · have hx := List.mem_of_getElem? f2
    have hs : s ∈ S := (h2 s).1 ⟨x, hx, f3⟩
    simp [Instr.lookup, run_underlying ht, MapKept.run_getObj_map hb, MapKept.run_checkKey hk (key_is s), MapKept.run_findKey hk f1, Result.andThen, hasB_yes hs, (h1 x hx).2]

theorem Mod.setObj {w : World} {b : Nat} (o : Obj) : Mod (· = b) w { w with heap := w.heap.setIfInBounds b o } :=
  ⟨rfl, rfl, rfl, by simp, fun k hk hn => by simp [Ne.symm hn]⟩

theorem SetAt.update {P : Program} {w : World} {b : Nat} {S : List ByteArray} {t k e : TypeId} (h : SetAt w b S) (ht : P.underlying t = some (.map k e)) (hk : P.underlying k = some .string) (s : ByteArray) :
    ∃ w', (Instr.mapUpdate t (.map (some b)) (.string s) (.bool true)).run P w = .ok () w' ∧ SetAt w' b (s :: S) ∧ Mod (· = b) w w' := by
  obtain ⟨es, clock, hb, h1, h2⟩ := h
  rcases findNow_spec (key_is s) es.toList 0 (fun x hx => (h1 x hx).1) with ⟨f1, f2⟩ | ⟨j, x, f1, f2, f3⟩
  · refine ⟨_, by simp [Instr.mapUpdate, run_underlying ht, MapKept.run_getObj_map hb, MapKept.run_checkKey hk (key_is s), MapKept.run_findKey hk f1, MapKept.run_setObj_map _ hb, Result.andThen]; rfl, ⟨_, _, (MapKept.heap_set hb).1, ?_, ?_⟩, Mod.setObj _⟩
    · intro x hx
      simp only [Array.toList_push, List.mem_append, List.mem_singleton] at hx
      rcases hx with hx | rfl
      · exact h1 x hx
      · exact ⟨key_is s, rfl⟩
    · intro s'
      simp only [Array.toList_push, List.mem_append, List.mem_cons, List.not_mem_nil, or_false]
      constructor
      · rintro ⟨x, hx | rfl, e⟩
        · exact .inr ((h2 s').1 ⟨x, hx, e⟩)
        · simp at e
          exact .inl e.symm
      · rintro (rfl | hs)
        · exact ⟨_, .inr rfl, rfl⟩
        · obtain ⟨x, hx, e⟩ := (h2 s').2 hs
          exact ⟨x, .inl hx, e⟩
  · have hx := List.mem_of_getElem? f2
    have fe : es[j]? = some x := by simpa using f2
    have hkk : (((es[j]?).map (·.key)).getD (.string s)) = .string s := by rw [fe]; simpa using f3
    refine ⟨_, by simp [Instr.mapUpdate, run_underlying ht, MapKept.run_getObj_map hb, MapKept.run_checkKey hk (key_is s), MapKept.run_findKey hk f1, MapKept.run_setObj_map _ hb, Result.andThen, hkk, MapKept.run_keyThatStays (key_is s), fe, f3]; rfl, ⟨_, _, (MapKept.heap_set hb).1, ?_, ?_⟩, Mod.setObj _⟩
    · intro y hy
      obtain ⟨i, hi⟩ := List.mem_iff_getElem?.1 hy
      simp only [Array.getElem?_toList, Array.getElem?_modify] at hi
      split at hi
      · next e =>
        subst e
        rw [fe] at hi
        simp at hi
        subst hi
        exact ⟨key_is s, rfl⟩
      · exact h1 y (Array.mem_toList_iff.2 (Array.mem_of_getElem? hi))
    · intro s'
      have hs : s ∈ S := (h2 s).1 ⟨x, hx, f3⟩
      have hkeys : ((es.modify j fun e => { e with key := .string s, val := .bool true }).toList.map (·.key)) = es.toList.map (·.key) := modify_keys j _ (fun e he => by rw [fe] at he; cases he; exact f3.symm)
      have hiff : ∀ (l : List MapEntry), (∃ y ∈ l, y.key = .string s') ↔ (.string s' : Value) ∈ l.map (·.key) := fun l => by simp [List.mem_map]
      rw [hiff, hkeys, ← hiff, h2 s']
      constructor
      · exact fun a => .tail _ a
      · intro a
        cases a with
        | head => exact hs
        | tail _ a => exact a

theorem wpList_lookup_set {P : Program} (w : World) {ops : Array Oper} {rest : List Oper} {o : Oper} {a : Act} {Q : Exit → Act → World → Prop}
    (hg : o.guard = none) (m x : Operand) (t : TypeId) (hop : o.op = Op.lookup t m x false)
    (k e : TypeId) (ht : P.underlying t = some (.map k e)) (hk : P.underlying k = some .string) (hz : ∀ w, (zeroValue e).run P w = .ok (.bool false) w) (b : Nat) (S : List ByteArray)
    (hm : a.eval m = .map (some b)) (hown : SetAt w b S) (s : ByteArray) (hx : a.eval x = .string s)
    (hK : wpList P ops Q rest (a.put o.dst (.bool (hasB S s))) w) :
    wpList P ops Q (o :: rest) a w := by
  refine wpList_plain hg fun K' hK' => ?_
  unfold Oper.wp
  simp [execOp, hop, hm, hx, hown.lookup ht hk (hz w) s, Result.andThen]
  exact hK' _ _ hK

theorem wpList_mapUpdate_set {P : Program} (w : World) {ops : Array Oper} {rest : List Oper} {o : Oper} {a : Act} {Q : Exit → Act → World → Prop}
    (hg : o.guard = none) (m x v : Operand) (t : TypeId) (hop : o.op = Op.mapUpdate t m x v)
    (k e : TypeId) (ht : P.underlying t = some (.map k e)) (hk : P.underlying k = some .string) (b : Nat) (S : List ByteArray)
    (hm : a.eval m = .map (some b)) (hown : SetAt w b S) (s : ByteArray) (hx : a.eval x = .string s) (hv : a.eval v = .bool true)
    (hK : ∀ w', SetAt w' b (s :: S) → Mod (· = b) w w' → wpList P ops Q rest (a.put o.dst undef) w') :
    wpList P ops Q (o :: rest) a w := by
  refine wpList_plain hg fun K' hK' => ?_
  obtain ⟨w', hrun, r1, r2⟩ := hown.update ht hk s
  unfold Oper.wp
  simp [execOp, hop, hm, hx, hv, hrun, Result.andThen]
  exact hK' _ _ (hK w' r1 r2)
end Go.Proofs.YtnhgichiedninaaGreatDoor

namespace Go.Proofs.YtnhgichiedninaaGreatDoor
set_option linter.unusedSimpArgs false
set_option linter.unusedVariables false
open Go.RowKit

theorem StrsAt.mod {S : Nat → Prop} {w w' : World} {a : Option Addr} {c : Nat} {p : List ByteArray} (h : StrsAt w a c p) (hm : Mod S w w') (hs : ∀ b o s, w.cell? ⟨b, o, none⟩ = some (.string s) → ¬ S b) : StrsAt w' a c p := by
  refine ⟨h.room, h.cap, h.small, ?_⟩
  rcases h.at' with h | ⟨b, o, e, hb, hc⟩
  · exact .inl h
  · exact .inr ⟨b, o, e, Nat.lt_of_lt_of_le hb hm.size, fun i s hs' => Mod.cellv hm (hc i s hs') (hs b (o + i) s (hc i s hs'))⟩
theorem SetAt.no_cell {w : World} {b : Nat} {S : List ByteArray} (h : SetAt w b S) (o : Nat) : w.cell? ⟨b, o, none⟩ = none := by
  obtain ⟨es, clock, hb, -⟩ := h
  simp [World.cell?, hb]

/-- What the worlds within a call of file hold: i's box, the file's box, the check, its two sets, the path, the table; what has turned since w0. -/
structure Ck (w0 w : World) (bi bf b bm ba : Nat) (i : Nat) (tot : Int) (pa : Option Addr) (pc : Nat) (f : FileV) (M A : List ByteArray) : Prop where
  xi : Blk w bi #[.int .i64 i] 3
  xf : Blk w bf (frow pa pc f) 60
  xc : Blk w b #[.map (some bm), .map (some ba), .int .i64 tot] 199
  sm : SetAt w bm M
  sa : SetAt w ba A
  sp : StrsAt w pa pc f.path
  far : bi ≠ bm ∧ bi ≠ ba ∧ bf ≠ bm ∧ bf ≠ ba ∧ b ≠ bm ∧ b ≠ ba ∧ bm ≠ ba
  mod : Mod (fun k => k = b ∨ k = bm ∨ k = ba) w0 w
section
variable {w0 w w' : World} {bi bf b bm ba : Nat} {i : Nat} {tot : Int} {pa : Option Addr} {pc : Nat} {f : FileV} {M A : List ByteArray}
theorem Ck.new (h : Ck w0 w bi bf b bm ba i tot pa pc f M A) (n : New w w') : Ck w0 w' bi bf b bm ba i tot pa pc f M A :=
  ⟨n.blk h.xi, n.blk h.xf, n.blk h.xc, h.sm.mod n (fun x => x), h.sa.mod n (fun x => x), h.sp.new n, h.far, h.mod.trans' n (fun _ _ x => x.elim)⟩
theorem Ck.alloc (h : Ck w0 w bi bf b bm ba i tot pa pc f M A) (o : Obj) : Ck w0 (w.alloc o) bi bf b bm ba i tot pa pc f M A := h.new ((Mod.refl _ _).alloc o)
theorem Ck.drew (h : Ck w0 w bi bf b bm ba i tot pa pc f M A) : Ck w0 w.drew bi bf b bm ba i tot pa pc f M A := h.new (Mod.refl _ _).drew
theorem Ck.drewN (h : Ck w0 w bi bf b bm ba i tot pa pc f M A) (n : Nat) : Ck w0 (w.drewN n) bi bf b bm ba i tot pa pc f M A := h.new ((Mod.refl _ _).drewN n)
theorem Ck.cells (h : Ck w0 w bi bf b bm ba i tot pa pc f M A) : w.cell? ⟨bf, 0, none⟩ = some (.slice pa f.path.length pc) ∧ w.cell? ⟨bf, 1, none⟩ = some (.int .i64 f.len) ∧ w.cell? ⟨bf, 2, none⟩ = some (.bool f.pad) ∧ w.cell? ⟨b, 0, none⟩ = some (.map (some bm)) ∧ w.cell? ⟨b, 1, none⟩ = some (.map (some ba)) ∧ w.cell? ⟨b, 2, none⟩ = some (.int .i64 tot) ∧ w.frozen? ⟨b, 2, none⟩ = false ∧ b < w.heap.size ∧ bf < w.heap.size ∧ w.cell? ⟨bi, 0, none⟩ = some (.int .i64 i) ∧ bi < w.heap.size :=
  ⟨h.xf.cellv 0 rfl, h.xf.cellv 1 rfl, h.xf.cellv 2 rfl, h.xc.cellv 0 rfl, h.xc.cellv 1 rfl, h.xc.cellv 2 rfl, h.xc.frz 2, h.xc.lt, h.xf.lt, h.xi.cellv 0 rfl, h.xi.lt⟩
theorem Ck.put_m (h : Ck w0 w bi bf b bm ba i tot pa pc f M A) {M' : List ByteArray} (hs : SetAt w' bm M') (hm : Mod (· = bm) w w') : Ck w0 w' bi bf b bm ba i tot pa pc f M' A := by
  obtain ⟨f1, f2, f3, f4, f5, f6, f7⟩ := h.far
  refine ⟨hm.blk h.xi f1, hm.blk h.xf f3, hm.blk h.xc f5, hs, h.sa.mod hm (Ne.symm f7), h.sp.mod hm (fun b' o s hc e => ?_), h.far, h.mod.trans' hm (fun k _ e => .inr (.inl e))⟩
  rw [e, h.sm.no_cell] at hc
  cases hc
theorem Ck.put_a (h : Ck w0 w bi bf b bm ba i tot pa pc f M A) {A' : List ByteArray} (hs : SetAt w' ba A') (hm : Mod (· = ba) w w') : Ck w0 w' bi bf b bm ba i tot pa pc f M A' := by
  obtain ⟨f1, f2, f3, f4, f5, f6, f7⟩ := h.far
  refine ⟨hm.blk h.xi f2, hm.blk h.xf f4, hm.blk h.xc f6, h.sm.mod hm f7, hs, h.sp.mod hm (fun b' o s hc e => ?_), h.far, h.mod.trans' hm (fun k _ e => .inr (.inr e))⟩
  rw [e, h.sa.no_cell] at hc
  cases hc
end

/-- What file leaves behind, where it finds no fault. -/
structure Done (w0 w : World) (b bm ba : Nat) (tot : Int) (M A : List ByteArray) : Prop where
  xc : Blk w b #[.map (some bm), .map (some ba), .int .i64 tot] 199
  sm : SetAt w bm M
  sa : SetAt w ba A
  mod : Mod (fun k => k = b ∨ k = bm ∨ k = ba) w0 w

/-- What file is asked: the check, its two sets, the file, the table. -/
structure Ask (w : World) (b bm ba : Nat) (pa : Option Addr) (pc : Nat) (f : FileV) (tot : Int) (M A : List ByteArray) : Prop where
  xc : Blk w b #[.map (some bm), .map (some ba), .int .i64 tot] 199
  sm : SetAt w bm M
  sa : SetAt w ba A
  sp : StrsAt w pa pc f.path
  far : b ≠ bm ∧ b ≠ ba ∧ bm ≠ ba
  tab : Tab w
  len : -9223372036854775808 ≤ f.len ∧ f.len ≤ 9223372036854775807
abbrev boxes (w : World) (i : Nat) (pa : Option Addr) (pc : Nat) (f : FileV) : World := (w.alloc (.cells #[.int .i64 i] 3)).alloc (.cells #[.slice pa f.path.length pc, .int .i64 f.len, .bool f.pad] 60)
theorem boxes_new (w : World) (i : Nat) (pa : Option Addr) (pc : Nat) (f : FileV) : New w (boxes w i pa pc f) := ((Mod.refl _ _).alloc _).alloc _
theorem Ask.start {w : World} {b bm ba : Nat} {pa : Option Addr} {pc : Nat} {f : FileV} {tot : Int} {M A : List ByteArray} (h : Ask w b bm ba pa pc f tot M A) (i : Nat) :
    Ck w (boxes w i pa pc f) w.heap.size (w.heap.size + 1) b bm ba i tot pa pc f M A := by
  have q1 := h.sm.lt
  have q2 := h.sa.lt
  exact ⟨(Blk.new _ _ _).alloc _, by have := Blk.new (w.alloc (.cells #[.int .i64 i] 3)) (frow pa pc f) 60; simpa using this, (h.xc.alloc _).alloc _, (h.sm.alloc _).alloc _, (h.sa.alloc _).alloc _, h.sp.new (boxes_new _ _ _ _ _), ⟨by omega, by omega, by omega, by omega, h.far.1, h.far.2.1, h.far.2.2⟩, ((Mod.refl _ _).alloc _).alloc _⟩
/-- The end of file: a fault, or the check turned. -/
def Fin (w : World) (b bm ba i : Nat) (f : FileV) (tot : Int) (M A : List ByteArray) : Option Int → Ending → World → Prop
  | some e, e', w' => e' = .panicked (told i e) ∧ Mod (fun k => k = b ∨ k = bm ∨ k = ba) w w'
  | none, e', w' => e' = .returned (.tuple #[]) ∧ Done w w' b bm ba (tot + f.len) (addM f M) (addA f A)
theorem strs_pad (w : World) (n : Int) (hs : (itoaB n).size ≤ 21) : StrsAt (w.alloc (.cells #[.string ⟨#[46, 112, 97, 100]⟩, .string (itoaB n)] 9)) (some ⟨w.heap.size, 0, none⟩) 2 (padPath n) := by
  refine ⟨Nat.le_refl _, by simp [maxLen], fun s h => ?_, .inr ⟨_, _, rfl, by simp, fun i s h => ?_⟩⟩
  · simp [padPath] at h
    rcases h with rfl | rfl
    · simp [dotpad, maxLen]
      decide
    · unfold maxLen; omega
  · have hb := Blk.new w #[.string ⟨#[46, 112, 97, 100]⟩, .string (itoaB n)] 9
    match i, h with
    | 0, h => simp [padPath, dotpad] at h; subst h; exact hb.cellv 0 rfl
    | 1, h => simp [padPath] at h; subst h; exact hb.cellv 1 rfl
    | i + 2, h => simp [padPath] at h

theorem StrsAt.alloc {w : World} {a : Option Addr} {c : Nat} {p : List ByteArray} (h : StrsAt w a c p) (o : Obj) : StrsAt (w.alloc o) a c p := h.new ((Mod.refl _ _).alloc o)
theorem StrsAt.drew {w : World} {a : Option Addr} {c : Nat} {p : List ByteArray} (h : StrsAt w a c p) : StrsAt w.drew a c p := h.new (Mod.refl _ _).drew


theorem Done.drew {w0 w : World} {b bm ba : Nat} {tot : Int} {M A : List ByteArray} (h : Done w0 w b bm ba tot M A) : Done w0 w.drew b bm ba tot M A := ⟨h.xc.drew, h.sm.drew, h.sa.drew, h.mod.drew⟩
theorem Ck.finish {w0 w : World} {bi bf b bm ba : Nat} {i : Nat} {tot : Int} {pa : Option Addr} {pc : Nat} {f : FileV} {M A : List ByteArray} (h : Ck w0 w bi bf b bm ba i tot pa pc f M A) (t : Int) :
    Done w0 (w.setCell ⟨b, 2, none⟩ (.int .i64 t)) b bm ba t M A :=
  ⟨(h.xc.set 2 _).row rfl, h.sm.other (Ne.symm h.far.2.2.2.2.1), h.sa.other (Ne.symm h.far.2.2.2.2.2.1), h.mod.set _ _ (.inl (.inl rfl))⟩
end Go.Proofs.YtnhgichiedninaaGreatDoor
