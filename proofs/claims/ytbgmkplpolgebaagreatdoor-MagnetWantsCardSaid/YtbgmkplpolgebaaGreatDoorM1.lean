/-
  Several texts in one, in their build order. Blocks known whole ('Blk'), and what a call may have turned ('Mod'). Plain facts on worlds, over no program. No condition. Whether a text is in a list of texts. Plain Lean. No condition. What a valid list of files is, told twice: as package files asks it (with sets of joined paths), and as the reference does (file beside file). The two are one. Plain Lean, no program. No condition. How a path, and a list of files, lie in memory. Plain facts on worlds. No condition. Bytes that lie in a block, whoever laid them: read, written, made a text; what '[]byte(s)' lays. Plain facts over the program. No condition.
-/
import Derived.Test.YtbgmkplpolgebaaGreatDoorRows
import Derived.WalkKit
import Derived.WalkSpells
import Derived.WalkLawsBesides
import Derived.Laws.EntriesVeiled
import Derived.OrdersHeld
import Derived.KernelRfl
import Derived.Laws.Strings
import Derived.WideShapes
import Derived.Lib.Join
import Derived.Lib.ItoaLen
import Derived.Laws.IdiomStrings
namespace Go.Proofs.YtbgmkplpolgebaaGreatDoor
set_option linter.unusedSimpArgs false
set_option linter.unusedVariables false
open Go.RowKit

/-- A fact kept from the walk. -/
theorem hid {p : Prop} (h : p) : Hid p := h

/-- The block b holds just the cells cs, of the element type t, and none of them is frozen. -/
def Blk (w : World) (b : Nat) (cs : Array Value) (t : TypeId) : Prop := w.heap[b]? = some (.cells cs t (0, 0))

theorem Blk.cell {w : World} {b : Nat} {cs : Array Value} {t : TypeId} (h : Blk w b cs t) (i : Nat) : w.cell? ⟨b, i, none⟩ = cs[i]? := by
  unfold Blk at h
  simp [World.cell?, h]
theorem Blk.cellv {w : World} {b : Nat} {cs : Array Value} {t : TypeId} (h : Blk w b cs t) (i : Nat) {v : Value} (hv : cs[i]? = some v) : w.cell? ⟨b, i, none⟩ = some v := by
  rw [h.cell, hv]
theorem Blk.frz {w : World} {b : Nat} {cs : Array Value} {t : TypeId} (h : Blk w b cs t) (i : Nat) : w.frozen? ⟨b, i, none⟩ = false := by
  unfold Blk at h
  simp [World.frozen?, h]
theorem Blk.lt {w : World} {b : Nat} {cs : Array Value} {t : TypeId} (h : Blk w b cs t) : b < w.heap.size := by
  unfold Blk at h
  rcases Nat.lt_or_ge b w.heap.size with h' | h'
  · exact h'
  · simp [Array.getElem?_eq_none h'] at h
theorem Blk.one {w : World} {b : Nat} {v : Value} {t : TypeId} (h : Blk w b #[v] t) : w.cell? ⟨b, 0, none⟩ = some v ∧ w.frozen? ⟨b, 0, none⟩ = false ∧ b < w.heap.size := ⟨h.cellv 0 rfl, h.frz 0, h.lt⟩
theorem Blk.of_heap {w w' : World} {b : Nat} {cs : Array Value} {t : TypeId} (h : Blk w b cs t) (e : w'.heap[b]? = w.heap[b]?) : Blk w' b cs t := e.trans h
theorem Blk.alloc {w : World} {b : Nat} {cs : Array Value} {t : TypeId} (h : Blk w b cs t) (o : Obj) : Blk (w.alloc o) b cs t :=
  h.of_heap (Below.heap_alloc w o b h.lt)
theorem Blk.drew {w : World} {b : Nat} {cs : Array Value} {t : TypeId} (h : Blk w b cs t) : Blk w.drew b cs t := h
theorem Blk.other {w : World} {b : Nat} {cs : Array Value} {t : TypeId} {p : Addr} {u : Value} (hp : b ≠ p.block) (h : Blk w b cs t) : Blk (w.setCell p u) b cs t :=
  h.of_heap (Below.heap_setCell w p u b hp)
theorem Blk.set {w : World} {b : Nat} {cs : Array Value} {t : TypeId} (h : Blk w b cs t) (i : Nat) (u : Value) : Blk (w.setCell ⟨b, i, none⟩ u) b (cs.setIfInBounds i u) t := by
  have hlt := h.lt
  unfold Blk at h ⊢
  have h' : w.heap[b] = .cells cs t (0, 0) := by simpa [Array.getElem?_eq_getElem hlt] using h
  show (w.heap.modify b _)[b]? = _
  rw [Array.getElem?_eq_getElem (by simpa using hlt), Array.getElem_modify_self, h']
  rfl
theorem Blk.new (w : World) (cs : Array Value) (t : TypeId) : Blk (w.alloc (.cells cs t)) w.heap.size cs t := by unfold Blk; show (w.heap.push _)[w.heap.size]? = _; simp
theorem Blk.newAt {w : World} {b : Nat} {cs : Array Value} {t : TypeId} (h : b = w.heap.size) : Blk (w.alloc (.cells cs t)) b cs t := by subst h; exact Blk.new w cs t
theorem Blk.row {w : World} {b : Nat} {cs cs' : Array Value} {t : TypeId} (h : Blk w b cs t) (e : cs = cs') : Blk w b cs' t := e ▸ h

/-- The blocks of S may have turned, and there may be new blocks. All else is as it was. -/
structure Mod (S : Nat → Prop) (w w' : World) : Prop where
  os : w'.os = w.os
  tape : w'.tape = w.tape
  output : w'.output = w.output
  size : w.heap.size ≤ w'.heap.size
  block : ∀ k, k < w.heap.size → ¬ S k → w'.heap[k]? = w.heap[k]?

theorem Mod.refl (S : Nat → Prop) (w : World) : Mod S w w := ⟨rfl, rfl, rfl, Nat.le_refl _, fun _ _ _ => rfl⟩
theorem Mod.trans' {S S' : Nat → Prop} {a b c : World} (h : Mod S a b) (k : Mod S' b c) (hs : ∀ i, i < a.heap.size → S' i → S i) : Mod S a c :=
  ⟨k.os.trans h.os, k.tape.trans h.tape, k.output.trans h.output, Nat.le_trans h.size k.size, fun i hi hn => (k.block i (Nat.lt_of_lt_of_le hi h.size) (fun x => hn (hs i hi x))).trans (h.block i hi hn)⟩
theorem Mod.trans {S : Nat → Prop} {a b c : World} (h : Mod S a b) (k : Mod S b c) : Mod S a c := h.trans' k (fun _ _ x => x)
theorem Mod.mono {S S' : Nat → Prop} {a b : World} (h : Mod S a b) (hs : ∀ i, i < a.heap.size → S i → S' i) : Mod S' a b :=
  ⟨h.os, h.tape, h.output, h.size, fun i hi hn => h.block i hi (fun x => hn (hs i hi x))⟩
theorem Mod.drew {S : Nat → Prop} {a b : World} (h : Mod S a b) : Mod S a b.drew := ⟨h.os, h.tape, h.output, h.size, h.block⟩
theorem Mod.alloc {S : Nat → Prop} {a b : World} (h : Mod S a b) (o : Obj) : Mod S a (b.alloc o) :=
  ⟨h.os, h.tape, h.output, by have := h.size; simp; omega, fun i hi hn => (Below.heap_alloc b o i (Nat.lt_of_lt_of_le hi h.size)).trans (h.block i hi hn)⟩
theorem Mod.set {S : Nat → Prop} {a b : World} (h : Mod S a b) (p : Addr) (u : Value) (hp : S p.block ∨ a.heap.size ≤ p.block) : Mod S a (b.setCell p u) :=
  ⟨h.os, h.tape, h.output, by have := h.size; simpa using this, fun i hi hn => (Below.heap_setCell b p u i (fun e => by subst e; rcases hp with hp | hp; exact hn hp; omega)).trans (h.block i hi hn)⟩
theorem Mod.blk {S : Nat → Prop} {w w' : World} (h : Mod S w w') {b : Nat} {cs : Array Value} {t : TypeId} (hb : Blk w b cs t) (hn : ¬ S b) : Blk w' b cs t := hb.of_heap (h.block b hb.lt hn)
theorem Mod.below {S : Nat → Prop} {w w' : World} (h : Mod S w w') (B : Nat) (hB : B ≤ w.heap.size) (hs : ∀ i, i < B → ¬ S i) : Below B w w' :=
  ⟨h.os, h.tape, h.output, h.size, fun k hk => h.block k (by omega) (hs k hk)⟩
theorem Mod.of_below {w w' : World} {B : Nat} (h : Below B w w') : Mod (fun k => B ≤ k) w w' :=
  ⟨h.os, h.tape, h.output, h.size, fun k _ hn => h.block k (by omega)⟩
/-- Nothing that was there has turned. -/
abbrev New (w w' : World) : Prop := Mod (fun _ => False) w w'
theorem New.blk {w w' : World} (h : New w w') {b : Nat} {cs : Array Value} {t : TypeId} (hb : Blk w b cs t) : Blk w' b cs t := Mod.blk h hb (fun x => x)
theorem New.mod {S : Nat → Prop} {w w' : World} (h : New w w') : Mod S w w' := Mod.mono h (fun _ _ x => x.elim)

theorem ret_bool {a b : Bool} (h : a = b) : Ending.returned (.bool a) = .returned (.bool b) := by rw [h]
/-- 'wpAnyH_take', its plain premises shown by themselves: operation i of a drawn region is taken. -/
theorem tk {P : Program} {md : Region.Mode} {ops : Array Oper} {Q : Exit → Act → World → Prop} {S : World → Prop} {fuel : Nat} {listed : Array Bool} {a : Act} {w : World} (i : Nat) {v : Value} {oi : Oper}
    (hy : ∀ w, S w → (execOp a.eval oi).run P w = .ok (.value v) w) (h : wpAnyH P md ops Q S fuel (listed.setIfInBounds i true) (a.put oi.dst v) w)
    (hi : ops[i]? = some oi := by simp only [List.getElem?_toArray, List.getElem?_cons_succ, List.getElem?_cons_zero]; rfl)
    (hs : Region.noSelect ops = true := by kernel_rfl) (hf : Region.free md ops listed i = true := by kernel_rfl) (hr : (Region.ready md ops listed).contains i = true := by kernel_rfl)
    (hQ : ∀ c a w, Q (.panic c) (a.put oi.dst v) w → Q (.panic c) a w := by intro _ _ _ h; exact h) (hw : Region.wanted oi (yielded ops a.tmps) = true := by rfl) (hS : S w := by assumption) : wpAnyH P md ops Q S (fuel + 1) listed a w :=
  wpAnyH_take hi hs hf hr hQ (Or.inl ⟨hw, hy⟩) hS h
/-- .. is passed by. -/
theorem sk {P : Program} {md : Region.Mode} {ops : Array Oper} {Q : Exit → Act → World → Prop} {S : World → Prop} {fuel : Nat} {listed : Array Bool} {a : Act} {w : World} (i : Nat) {oi : Oper}
    (h : wpAnyH P md ops Q S fuel (listed.setIfInBounds i true) (a.put oi.dst undef) w)
    (hi : ops[i]? = some oi := by simp only [List.getElem?_toArray, List.getElem?_cons_succ, List.getElem?_cons_zero]; rfl)
    (hs : Region.noSelect ops = true := by kernel_rfl) (hf : Region.free md ops listed i = true := by kernel_rfl) (hr : (Region.ready md ops listed).contains i = true := by kernel_rfl)
    (hQ : ∀ c a w, Q (.panic c) (a.put oi.dst undef) w → Q (.panic c) a w := by intro _ _ _ h; exact h) (hw : Region.wanted oi (yielded ops a.tmps) = false := by kernel_rfl) (hS : S w := by assumption) : wpAnyH P md ops Q S (fuel + 1) listed a w :=
  wpAnyH_take hi hs hf hr hQ (Or.inr ⟨hw, rfl⟩) hS h
end Go.Proofs.YtbgmkplpolgebaaGreatDoor

namespace Go.Proofs.YtbgmkplpolgebaaGreatDoor
theorem bytes_ext {a b : ByteArray} (h : a.data.toList = b.data.toList) : a = b := by
  obtain ⟨⟨a⟩⟩ := a
  obtain ⟨⟨b⟩⟩ := b
  simp at h
  rw [h]
/-- As the walk compares a text with a written one. -/
theorem lit_eq (s : ByteArray) (l : List UInt8) : (s.toList == l) = decide (s = ⟨l.toArray⟩) := by
  rw [ByteArray.toList_eq, Bool.eq_iff_iff]
  simp only [beq_iff_eq, decide_eq_true_eq]
  constructor
  · intro h
    exact bytes_ext (by rw [h])
  · rintro rfl
    rfl
theorem two_eq (s t : ByteArray) : (s.toList == t.toList) = decide (s = t) := by
  rw [lit_eq, ByteArray.toList_eq]
end Go.Proofs.YtbgmkplpolgebaaGreatDoor

namespace Go.Proofs.YtbgmkplpolgebaaGreatDoor
set_option linter.unusedSimpArgs false
set_option linter.unusedVariables false

/-- A file as the program has it: path, length, pad. -/
structure FileV where
  path : List ByteArray
  len : Int
  pad : Bool

def dot : ByteArray := ⟨#[46]⟩
def dots : ByteArray := ⟨#[46, 46]⟩
def badByte (c : UInt8) : Bool := decide (c.toNat < 32) || decide (c.toNat = 127) || decide (c.toNat = 47) || decide (c.toNat = 92)
def partOk (s : ByteArray) : Bool := s.data.toList.all (fun c => !badByte c) && decide (1 ≤ s.size) && decide (s.size ≤ 40) && !decide (s = dot) && !decide (s = dots)
def named (f : FileV) : Bool := decide (1 ≤ f.path.length) && decide (f.path.length ≤ 8) && f.path.all partOk
/-! ### the joined path tells the path -/
/-! ### numbers are parts -/
/-! ### the two are one -/
end Go.Proofs.YtbgmkplpolgebaaGreatDoor

namespace Go.Proofs.YtbgmkplpolgebaaGreatDoor
set_option linter.unusedSimpArgs false
set_option linter.unusedVariables false
open Go.RowKit

theorem New.cell {w w' : World} (h : New w w') {p : Addr} (hp : p.block < w.heap.size) : w'.cell? p = w.cell? p := World.cell?_of_block (w := w) (h.block p.block hp (fun x => x))
theorem New.cellv {w w' : World} (h : New w w') {p : Addr} {v : Value} (hp : w.cell? p = some v) : w'.cell? p = some v := (h.cell (World.block_lt_of_cell? _ _ hp)).trans hp
theorem Mod.cellv {S : Nat → Prop} {w w' : World} (h : Mod S w w') {p : Addr} {v : Value} (hp : w.cell? p = some v) (hn : ¬ S p.block) : w'.cell? p = some v :=
  (World.cell?_of_block (w := w) (h.block p.block (World.block_lt_of_cell? _ _ hp) hn)).trans hp

/-- The slice of length p.length and capacity c at a holds the texts p. -/
structure StrsAt (w : World) (a : Option Addr) (c : Nat) (p : List ByteArray) : Prop where
  room : p.length ≤ c
  cap : c ≤ maxLen
  small : ∀ s ∈ p, s.size ≤ maxLen
  at' : p = [] ∨ ∃ b o, a = some ⟨b, o, none⟩ ∧ b < w.heap.size ∧ ∀ (i : Nat) s, p[i]? = some s → w.cell? ⟨b, o + i, none⟩ = some (.string s)
theorem StrsAt.new {w w' : World} {a : Option Addr} {c : Nat} {p : List ByteArray} (h : StrsAt w a c p) (hn : New w w') : StrsAt w' a c p := by
  refine ⟨h.room, h.cap, h.small, ?_⟩
  rcases h.at' with h | ⟨b, o, e, hb, hc⟩
  · exact .inl h
  · exact .inr ⟨b, o, e, Nat.lt_of_lt_of_le hb hn.size, fun i s hs => hn.cellv (hc i s hs)⟩
/-- .. where it is not empty. -/
theorem StrsAt.get {w : World} {a : Option Addr} {c : Nat} {p : List ByteArray} (h : StrsAt w a c p) (hp : 0 < p.length) : ∃ b o, a = some ⟨b, o, none⟩ ∧ b < w.heap.size ∧ ∀ (i : Nat) (hi : i < p.length), w.cell? ⟨b, o + i, none⟩ = some (.string p[i]) := by
  rcases h.at' with h | ⟨b, o, e, hb, hc⟩
  · simp [h] at hp
  · exact ⟨b, o, e, hb, fun i hi => hc i _ (List.getElem?_eq_getElem hi)⟩
theorem StrsAt.take {w : World} {a : Option Addr} {c : Nat} {p : List ByteArray} (h : StrsAt w a c p) (k : Nat) : StrsAt w a c (p.take k) := by
  refine ⟨by have := h.room; simp; omega, h.cap, fun s hs => h.small s (List.mem_of_mem_take hs), ?_⟩
  rcases h.at' with h | ⟨b, o, e, hb, hc⟩
  · exact .inl (by simp [h])
  · refine .inr ⟨b, o, e, hb, fun i s hs => hc i s ?_⟩
    rw [List.getElem?_take] at hs
    split at hs
    · exact hs
    · cases hs

/-- The cells of the file f, from the address (b, o) on. -/
def FileAt (w : World) (b o : Nat) (f : FileV) : Prop :=
  ∃ pa pc, w.cell? ⟨b, o, none⟩ = some (.slice pa f.path.length pc) ∧ w.cell? ⟨b, o + 1, none⟩ = some (.int .i64 f.len) ∧ w.cell? ⟨b, o + 2, none⟩ = some (.bool f.pad) ∧ StrsAt w pa pc f.path ∧ (-9223372036854775808 ≤ f.len ∧ f.len ≤ 9223372036854775807)
theorem FileAt.new {w w' : World} {b o : Nat} {f : FileV} (h : FileAt w b o f) (hn : New w w') : FileAt w' b o f := by
  obtain ⟨pa, pc, h1, h2, h3, h4, h5⟩ := h
  exact ⟨pa, pc, hn.cellv h1, hn.cellv h2, hn.cellv h3, h4.new hn, h5⟩
/-- The slice of length l.length and capacity c at a holds the files l. -/
structure FilesAt (w : World) (a : Option Addr) (c : Nat) (l : List FileV) : Prop where
  room : l.length ≤ c
  cap : c ≤ maxLen
  at' : l = [] ∨ ∃ b o, a = some ⟨b, o, none⟩ ∧ b < w.heap.size ∧ ∀ (i : Nat) f, l[i]? = some f → FileAt w b (o + i * 3) f
theorem FilesAt.new {w w' : World} {a : Option Addr} {c : Nat} {l : List FileV} (h : FilesAt w a c l) (hn : New w w') : FilesAt w' a c l := by
  refine ⟨h.room, h.cap, ?_⟩
  rcases h.at' with h | ⟨b, o, e, hb, hc⟩
  · exact .inl h
  · exact .inr ⟨b, o, e, Nat.lt_of_lt_of_le hb hn.size, fun i f hf => (hc i f hf).new hn⟩
theorem FilesAt.get {w : World} {a : Option Addr} {c : Nat} {l : List FileV} (h : FilesAt w a c l) (hp : 0 < l.length) : ∃ b o, a = some ⟨b, o, none⟩ ∧ b < w.heap.size ∧ ∀ (i : Nat) (hi : i < l.length), FileAt w b (o + i * 3) l[i] := by
  rcases h.at' with h | ⟨b, o, e, hb, hc⟩
  · simp [h] at hp
  · exact ⟨b, o, e, hb, fun i hi => hc i _ (List.getElem?_eq_getElem hi)⟩
theorem FilesAt.take {w : World} {a : Option Addr} {c : Nat} {l : List FileV} (h : FilesAt w a c l) (k : Nat) : FilesAt w a c (l.take k) := by
  refine ⟨by have := h.room; simp; omega, h.cap, ?_⟩
  rcases h.at' with h | ⟨b, o, e, hb, hc⟩
  · exact .inl (by simp [h])
  · refine .inr ⟨b, o, e, hb, fun i f hf => hc i f ?_⟩
    rw [List.getElem?_take] at hf
    split at hf
    · exact hf
    · cases hf
abbrev frow (pa : Option Addr) (pc : Nat) (f : FileV) : Array Value := #[.slice pa f.path.length pc, .int .i64 f.len, .bool f.pad]
theorem Blk.file {w : World} {b : Nat} {pa : Option Addr} {pc : Nat} {f : FileV} {t : TypeId} (h : Blk w b (frow pa pc f) t) : w.cell? ⟨b, 0, none⟩ = some (.slice pa f.path.length pc) ∧ w.cell? ⟨b, 1, none⟩ = some (.int .i64 f.len) ∧ w.cell? ⟨b, 2, none⟩ = some (.bool f.pad) ∧ (∀ i, w.frozen? ⟨b, i, none⟩ = false) ∧ b < w.heap.size :=
  ⟨h.cellv 0 rfl, h.cellv 1 rfl, h.cellv 2 rfl, h.frz, h.lt⟩
end Go.Proofs.YtbgmkplpolgebaaGreatDoor

namespace Go.Proofs.YtbgmkplpolgebaaGreatDoor
set_option linter.unusedSimpArgs false
set_option linter.unusedVariables false
open Go.RowKit

/-- The first cells of block g are the bytes s, and may be written. -/
def ByAt (w : World) (g : Nat) (s : List UInt8) : Prop :=
  ∃ (C : Array Value) (fr : Nat × Nat), w.heap[g]? = some (.cells C 5 fr) ∧ s.length ≤ C.size ∧ C.size ≤ fr.1 + (if fr = (0, 0) then C.size else 0) ∧ ∀ (i : Nat) (hi : i < s.length), C[i]? = some (.int .u8 (s[i].toNat : Int))
theorem ByAt.cell {w : World} {g : Nat} {s : List UInt8} (h : ByAt w g s) {i : Nat} (hi : i < s.length) : w.cell? ⟨g, i, none⟩ = some (.int .u8 (s[i].toNat : Int)) := by
  obtain ⟨C, fr, h1, -, -, h4⟩ := h
  simp only [World.cell?, h1]
  exact h4 i hi
theorem ByAt.lt {w : World} {g : Nat} {s : List UInt8} (h : ByAt w g s) : g < w.heap.size := by
  obtain ⟨C, fr, h1, -⟩ := h
  exact (Array.getElem?_eq_some_iff.1 h1).1
theorem ByAt.frz {w : World} {g : Nat} {s : List UInt8} (h : ByAt w g s) {i : Nat} (hi : i < s.length) : w.frozen? ⟨g, i, none⟩ = false := by
  obtain ⟨C, fr, h1, h2, h3, -⟩ := h
  obtain ⟨lo, hi2⟩ := fr
  simp only [World.frozen?, h1]
  by_cases e : (lo, hi2) = (0, 0)
  · cases e
    simp
  · rw [if_neg e] at h3
    have : ¬ lo ≤ i := by simp only at h3; omega
    simp [this]
theorem ByAt.of_heap {w w' : World} {g : Nat} {s : List UInt8} (h : ByAt w g s) (e : w'.heap[g]? = w.heap[g]?) : ByAt w' g s := by
  obtain ⟨C, fr, h1, h2⟩ := h
  exact ⟨C, fr, e.trans h1, h2⟩
theorem ByAt.new {w w' : World} {g : Nat} {s : List UInt8} (h : ByAt w g s) (n : New w w') : ByAt w' g s := h.of_heap (n.block g h.lt (fun x => x))
theorem ByAt.mod {S : Nat → Prop} {w w' : World} {g : Nat} {s : List UInt8} (h : ByAt w g s) (n : Mod S w w') (hg : ¬ S g) : ByAt w' g s := h.of_heap (n.block g h.lt hg)
theorem ByAt.of_blk {w : World} {g : Nat} {s : List UInt8} {cs : Array Value} (h : Blk w g cs 5) (hl : s.length ≤ cs.size) (hc : ∀ (i : Nat) (hi : i < s.length), cs[i]? = some (.int .u8 (s[i].toNat : Int))) : ByAt w g s :=
  ⟨cs, (0, 0), h, hl, by simp, hc⟩
theorem ByAt.set {w : World} {g : Nat} {s : List UInt8} (h : ByAt w g s) {i : Nat} (hi : i < s.length) (b : UInt8) : ByAt (w.setCell ⟨g, i, none⟩ (.int .u8 (b.toNat : Int))) g (s.set i b) := by
  obtain ⟨C, fr, h1, h2, h3, h4⟩ := h
  refine ⟨C.setIfInBounds i (.int .u8 (b.toNat : Int)), fr, ?_, by simpa using h2, by simpa using h3, fun j hj => ?_⟩
  · have hlt : g < w.heap.size := (Array.getElem?_eq_some_iff.1 h1).1
    have h' : w.heap[g] = .cells C 5 fr := by simpa [Array.getElem?_eq_getElem hlt] using h1
    show (w.heap.modify g _)[g]? = _
    rw [Array.getElem?_eq_getElem (by simpa using hlt), Array.getElem_modify_self, h']
    rfl
  · rw [List.length_set] at hj
    rw [Array.getElem?_setIfInBounds]
    by_cases e : i = j
    · subst e
      rw [if_pos rfl, if_pos (by omega)]
      simp
    · rw [if_neg e, h4 j hj, List.getElem_set_ne e]
/-- Behind '[]byte(s)'. -/
abbrev afterBytes (w : World) (s : ByteArray) : World :=
  w.drew.alloc (.cells (bytesRow s (grownCap w s.size 0 5)) 5 ((bytesRow s (grownCap w s.size 0 5)).size, (bytesRow s (grownCap w s.size 0 5)).size + 1))
theorem bytes_of (w : World) (s : ByteArray) : (convert 9 42 (.string s)).run Tryz.prog w = .ok (.slice (some ⟨w.heap.size, 0, none⟩) s.size (grownCap w s.size 0 5)) (afterBytes w s) :=
  run_bytes_of_string w 9 42 5 s Tryz.underlying9 Tryz.underlying42 Tryz.underlying5
theorem bytes_lie (w : World) (s : ByteArray) {g : Nat} (hg : g = w.heap.size) : ByAt (afterBytes w s) g s.data.toList := by
  subst hg
  refine ⟨bytesRow s (grownCap w s.size 0 5), ((bytesRow s (grownCap w s.size 0 5)).size, (bytesRow s (grownCap w s.size 0 5)).size + 1), (show (w.heap.push _)[w.heap.size]? = _ by simp), ?_, ?_, fun i hi => ?_⟩
  · unfold bytesRow
    simp
  · exact Nat.le_add_right _ _
  · have hi' : i < s.data.size := by simpa using hi
    unfold bytesRow
    rw [Array.getElem?_append_left (by simpa using hi'), Array.getElem?_map, Array.getElem?_eq_getElem hi']
    rfl
theorem bytes_new (w : World) (s : ByteArray) : New w (afterBytes w s) := ((Mod.refl _ _).drew).alloc _
theorem ByAt.text {w : World} {g : Nat} {s : List UInt8} (h : ByAt w g s) (n c : Nat) (hn : n = s.length) : (convert 42 9 (.slice (some ⟨g, 0, none⟩) n c)).run Tryz.prog w = .ok (.string ⟨s.toArray⟩) w := by
  subst hn
  refine run_convert_bytes_back w 42 9 5 ⟨g, 0, none⟩ c s Tryz.underlying42 Tryz.underlying5 Tryz.underlying9 (fun j hj => ?_)
  have hadd : (⟨g, 0, none⟩ : Addr).add j = ⟨g, 0 + j, none⟩ := by unfold Addr.add; split <;> simp_all
  rw [hadd, Nat.zero_add]
  exact h.cell hj
theorem newGrown {w w1 w2 : World} {row : Option Nat} (n : New w w1) (g : w1.grownBy w2 row) (h : ∀ k, row = some k → w.heap.size ≤ k) : New w w2 :=
  ⟨g.os.trans n.os, g.tape.trans n.tape, g.output.trans n.output, Nat.le_trans n.size g.size, fun k hk _ => (g.block k (Nat.lt_of_lt_of_le hk n.size) (fun q => by have := h k q.symm; omega)).trans (n.block k hk (fun q => q))⟩
end Go.Proofs.YtbgmkplpolgebaaGreatDoor
