/-
  How a path, and a list of files, lie in memory. Plain facts on worlds. No condition.
-/
import Derived.Test.YtecjdppkpfpniaaGreatDoorBase
import Derived.Test.YtecjdppkpfpniaaGreatDoorModel5
namespace Go.Proofs.YtecjdppkpfpniaaGreatDoor
set_option linter.unusedSimpArgs false
set_option linter.unusedVariables false
open Go.RowKit

theorem New.cell {w w' : World} (h : New w w') {p : Addr} (hp : p.block < w.heap.size) : w'.cell? p = w.cell? p := World.cell?_of_block (w := w) (h.block p.block hp (fun x => x))
theorem New.cellv {w w' : World} (h : New w w') {p : Addr} {v : Value} (hp : w.cell? p = some v) : w'.cell? p = some v := (h.cell (World.block_lt_of_cell? _ _ hp)).trans hp
theorem Mod.cellv {S : Nat → Prop} {w w' : World} (h : Mod S w w') {p : Addr} {v : Value} (hp : w.cell? p = some v) (hn : ¬ S p.block) : w'.cell? p = some v :=
  (World.cell?_of_block (w := w) (h.block p.block (World.block_lt_of_cell? _ _ hp) hn)).trans hp

/-- The slice of length p.length and capacity c at a holds the texts p. -/
structure StrsAt (w : World) (a : Option Addr) (c : Nat) (p : List ByteArray) : Prop where
  room : p.length ≤ c
  cap : c ≤ maxLen
  small : ∀ s ∈ p, s.size ≤ maxLen
  at' : p = [] ∨ ∃ b o, a = some ⟨b, o, none⟩ ∧ b < w.heap.size ∧ ∀ (i : Nat) s, p[i]? = some s → w.cell? ⟨b, o + i, none⟩ = some (.string s)
theorem StrsAt.new {w w' : World} {a : Option Addr} {c : Nat} {p : List ByteArray} (h : StrsAt w a c p) (hn : New w w') : StrsAt w' a c p := by
  refine ⟨h.room, h.cap, h.small, ?_⟩
  rcases h.at' with h | ⟨b, o, e, hb, hc⟩
  · exact .inl h
  · exact .inr ⟨b, o, e, Nat.lt_of_lt_of_le hb hn.size, fun i s hs => hn.cellv (hc i s hs)⟩
/-- .. where it is not empty. -/
theorem StrsAt.get {w : World} {a : Option Addr} {c : Nat} {p : List ByteArray} (h : StrsAt w a c p) (hp : 0 < p.length) : ∃ b o, a = some ⟨b, o, none⟩ ∧ b < w.heap.size ∧ ∀ (i : Nat) (hi : i < p.length), w.cell? ⟨b, o + i, none⟩ = some (.string p[i]) := by
  rcases h.at' with h | ⟨b, o, e, hb, hc⟩
  · simp [h] at hp
  · exact ⟨b, o, e, hb, fun i hi => hc i _ (List.getElem?_eq_getElem hi)⟩
theorem StrsAt.take {w : World} {a : Option Addr} {c : Nat} {p : List ByteArray} (h : StrsAt w a c p) (k : Nat) : StrsAt w a c (p.take k) := by
  refine ⟨by have := h.room; simp; omega, h.cap, fun s hs => h.small s (List.mem_of_mem_take hs), ?_⟩
  rcases h.at' with h | ⟨b, o, e, hb, hc⟩
  · exact .inl (by simp [h])
  · refine .inr ⟨b, o, e, hb, fun i s hs => hc i s ?_⟩
    rw [List.getElem?_take] at hs
    split at hs
    · exact hs
    · cases hs

/-- The cells of the file f, from the address (b, o) on. -/
def FileAt (w : World) (b o : Nat) (f : FileV) : Prop :=
  ∃ pa pc, w.cell? ⟨b, o, none⟩ = some (.slice pa f.path.length pc) ∧ w.cell? ⟨b, o + 1, none⟩ = some (.int .i64 f.len) ∧ w.cell? ⟨b, o + 2, none⟩ = some (.bool f.pad) ∧ StrsAt w pa pc f.path ∧ (-9223372036854775808 ≤ f.len ∧ f.len ≤ 9223372036854775807)
theorem FileAt.new {w w' : World} {b o : Nat} {f : FileV} (h : FileAt w b o f) (hn : New w w') : FileAt w' b o f := by
  obtain ⟨pa, pc, h1, h2, h3, h4, h5⟩ := h
  exact ⟨pa, pc, hn.cellv h1, hn.cellv h2, hn.cellv h3, h4.new hn, h5⟩
/-- The slice of length l.length and capacity c at a holds the files l. -/
structure FilesAt (w : World) (a : Option Addr) (c : Nat) (l : List FileV) : Prop where
  room : l.length ≤ c
  cap : c ≤ maxLen
  at' : l = [] ∨ ∃ b o, a = some ⟨b, o, none⟩ ∧ b < w.heap.size ∧ ∀ (i : Nat) f, l[i]? = some f → FileAt w b (o + i * 3) f
theorem FilesAt.new {w w' : World} {a : Option Addr} {c : Nat} {l : List FileV} (h : FilesAt w a c l) (hn : New w w') : FilesAt w' a c l := by
  refine ⟨h.room, h.cap, ?_⟩
  rcases h.at' with h | ⟨b, o, e, hb, hc⟩
  · exact .inl h
  · exact .inr ⟨b, o, e, Nat.lt_of_lt_of_le hb hn.size, fun i f hf => (hc i f hf).new hn⟩
theorem FilesAt.get {w : World} {a : Option Addr} {c : Nat} {l : List FileV} (h : FilesAt w a c l) (hp : 0 < l.length) : ∃ b o, a = some ⟨b, o, none⟩ ∧ b < w.heap.size ∧ ∀ (i : Nat) (hi : i < l.length), FileAt w b (o + i * 3) l[i] := by
  rcases h.at' with h | ⟨b, o, e, hb, hc⟩
  · simp [h] at hp
  · exact ⟨b, o, e, hb, fun i hi => hc i _ (List.getElem?_eq_getElem hi)⟩
theorem FilesAt.take {w : World} {a : Option Addr} {c : Nat} {l : List FileV} (h : FilesAt w a c l) (k : Nat) : FilesAt w a c (l.take k) := by
  refine ⟨by have := h.room; simp; omega, h.cap, ?_⟩
  rcases h.at' with h | ⟨b, o, e, hb, hc⟩
  · exact .inl (by simp [h])
  · refine .inr ⟨b, o, e, hb, fun i f hf => hc i f ?_⟩
    rw [List.getElem?_take] at hf
    split at hf
    · exact hf
    · cases hf
theorem FilesAt.fits {w : World} {a : Option Addr} {c : Nat} {l : List FileV} (h : FilesAt w a c l) : Fits l := by
  intro f hf
  obtain ⟨i, hi, rfl⟩ := List.mem_iff_getElem.1 hf
  obtain ⟨b, o, -, -, hc⟩ := h.get (by omega)
  obtain ⟨_, _, -, -, -, -, h5⟩ := hc i hi
  exact h5
/-- A file as it is handed over. -/
abbrev fileV (pa : Option Addr) (pc : Nat) (f : FileV) : Value := .agg #[.slice pa f.path.length pc, .int .i64 f.len, .bool f.pad]
abbrev frow (pa : Option Addr) (pc : Nat) (f : FileV) : Array Value := #[.slice pa f.path.length pc, .int .i64 f.len, .bool f.pad]
theorem Blk.file {w : World} {b : Nat} {pa : Option Addr} {pc : Nat} {f : FileV} {t : TypeId} (h : Blk w b (frow pa pc f) t) : w.cell? ⟨b, 0, none⟩ = some (.slice pa f.path.length pc) ∧ w.cell? ⟨b, 1, none⟩ = some (.int .i64 f.len) ∧ w.cell? ⟨b, 2, none⟩ = some (.bool f.pad) ∧ (∀ i, w.frozen? ⟨b, i, none⟩ = false) ∧ b < w.heap.size :=
  ⟨h.cellv 0 rfl, h.cellv 1 rfl, h.cellv 2 rfl, h.frz, h.lt⟩
end Go.Proofs.YtecjdppkpfpniaaGreatDoor
