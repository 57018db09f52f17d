/-
  Several texts in one, in their build order. What a valid list of files is, told twice: as package files asks it (with sets of joined paths), and as the reference does (file beside file). The two are one. Plain Lean, no program. No condition. How a path, and a list of files, lie in memory. Plain facts on worlds. No condition. Bytes that a call writes into a slice of its own: how they lie, appended, changed, and read back as a text. Condition: as told. Calls that turn nothing, within a region that draws its order (the world stands at the left). Over any program. No condition.
-/
import Derived.Test.YtbgmkplpolgebaaGreatDoorM1
import Derived.Lib.Join
import Derived.Lib.ItoaLen
import Derived.Laws.BytesArg
import Derived.OwnWalk
import Derived.Deep.Onto
import Derived.Maps.AppendAt
import Derived.Deep.QuietTactic
import Derived.BigQuiet
namespace Go.Proofs.YtbgmkplpolgebaaGreatDoor
set_option linter.unusedSimpArgs false
set_option linter.unusedVariables false

/-- A file as the program has it: path, length, pad. -/
structure FileV where
  path : List ByteArray
  len : Int
  pad : Bool

def dot : ByteArray := ⟨#[46]⟩
def dots : ByteArray := ⟨#[46, 46]⟩
def badByte (c : UInt8) : Bool := decide (c.toNat < 32) || decide (c.toNat = 127) || decide (c.toNat = 47) || decide (c.toNat = 92)
def partOk (s : ByteArray) : Bool := s.data.toList.all (fun c => !badByte c) && decide (1 ≤ s.size) && decide (s.size ≤ 40) && !decide (s = dot) && !decide (s = dots)
def itoaB (n : Int) : ByteArray := ⟨(Lib.itoa n).toArray⟩
def named (f : FileV) : Bool := decide (1 ≤ f.path.length) && decide (f.path.length ≤ 8) && f.path.all partOk
/-! ### the joined path tells the path -/
/-! ### numbers are parts -/
theorem dec_bytes (u : Nat) : (∀ c ∈ Lib.decDigits u, 48 ≤ c.toNat ∧ c.toNat ≤ 57) ∧ Lib.decDigits u ≠ [] := by
  induction u using Nat.strongRecOn with
  | ind u ih =>
    rw [Lib.decDigits]
    split
    · next h =>
      refine ⟨fun c hc => ?_, by simp⟩
      simp at hc
      subst hc
      simp [UInt8.toNat_ofNat']
      omega
    · next h =>
      refine ⟨fun c hc => ?_, by simp⟩
      simp at hc
      rcases hc with hc | hc
      · exact (ih (u / 10) (by omega)).1 c hc
      · subst hc
        simp [UInt8.toNat_ofNat']
        omega
/-! ### the two are one -/
end Go.Proofs.YtbgmkplpolgebaaGreatDoor

namespace Go.Proofs.YtbgmkplpolgebaaGreatDoor
set_option linter.unusedSimpArgs false
set_option linter.unusedVariables false
open Go.RowKit

theorem New.cell {w w' : World} (h : New w w') {p : Addr} (hp : p.block < w.heap.size) : w'.cell? p = w.cell? p := World.cell?_of_block (w := w) (h.block p.block hp (fun x => x))
theorem New.cellv {w w' : World} (h : New w w') {p : Addr} {v : Value} (hp : w.cell? p = some v) : w'.cell? p = some v := (h.cell (World.block_lt_of_cell? _ _ hp)).trans hp
theorem Mod.cellv {S : Nat → Prop} {w w' : World} (h : Mod S w w') {p : Addr} {v : Value} (hp : w.cell? p = some v) (hn : ¬ S p.block) : w'.cell? p = some v :=
  (World.cell?_of_block (w := w) (h.block p.block (World.block_lt_of_cell? _ _ hp) hn)).trans hp

/-- The slice of length p.length and capacity c at a holds the texts p. -/
structure StrsAt (w : World) (a : Option Addr) (c : Nat) (p : List ByteArray) : Prop where
  room : p.length ≤ c
  cap : c ≤ maxLen
  small : ∀ s ∈ p, s.size ≤ maxLen
  at' : p = [] ∨ ∃ b o, a = some ⟨b, o, none⟩ ∧ b < w.heap.size ∧ ∀ (i : Nat) s, p[i]? = some s → w.cell? ⟨b, o + i, none⟩ = some (.string s)
theorem StrsAt.new {w w' : World} {a : Option Addr} {c : Nat} {p : List ByteArray} (h : StrsAt w a c p) (hn : New w w') : StrsAt w' a c p := by
  refine ⟨h.room, h.cap, h.small, ?_⟩
  rcases h.at' with h | ⟨b, o, e, hb, hc⟩
  · exact .inl h
  · exact .inr ⟨b, o, e, Nat.lt_of_lt_of_le hb hn.size, fun i s hs => hn.cellv (hc i s hs)⟩
/-- .. where it is not empty. -/
theorem StrsAt.get {w : World} {a : Option Addr} {c : Nat} {p : List ByteArray} (h : StrsAt w a c p) (hp : 0 < p.length) : ∃ b o, a = some ⟨b, o, none⟩ ∧ b < w.heap.size ∧ ∀ (i : Nat) (hi : i < p.length), w.cell? ⟨b, o + i, none⟩ = some (.string p[i]) := by
  rcases h.at' with h | ⟨b, o, e, hb, hc⟩
  · simp [h] at hp
  · exact ⟨b, o, e, hb, fun i hi => hc i _ (List.getElem?_eq_getElem hi)⟩
theorem StrsAt.take {w : World} {a : Option Addr} {c : Nat} {p : List ByteArray} (h : StrsAt w a c p) (k : Nat) : StrsAt w a c (p.take k) := by
  refine ⟨by have := h.room; simp; omega, h.cap, fun s hs => h.small s (List.mem_of_mem_take hs), ?_⟩
  rcases h.at' with h | ⟨b, o, e, hb, hc⟩
  · exact .inl (by simp [h])
  · refine .inr ⟨b, o, e, hb, fun i s hs => hc i s ?_⟩
    rw [List.getElem?_take] at hs
    split at hs
    · exact hs
    · cases hs

/-- The cells of the file f, from the address (b, o) on. -/
def FileAt (w : World) (b o : Nat) (f : FileV) : Prop :=
  ∃ pa pc, w.cell? ⟨b, o, none⟩ = some (.slice pa f.path.length pc) ∧ w.cell? ⟨b, o + 1, none⟩ = some (.int .i64 f.len) ∧ w.cell? ⟨b, o + 2, none⟩ = some (.bool f.pad) ∧ StrsAt w pa pc f.path ∧ (-9223372036854775808 ≤ f.len ∧ f.len ≤ 9223372036854775807)
theorem FileAt.new {w w' : World} {b o : Nat} {f : FileV} (h : FileAt w b o f) (hn : New w w') : FileAt w' b o f := by
  obtain ⟨pa, pc, h1, h2, h3, h4, h5⟩ := h
  exact ⟨pa, pc, hn.cellv h1, hn.cellv h2, hn.cellv h3, h4.new hn, h5⟩
/-- The slice of length l.length and capacity c at a holds the files l. -/
structure FilesAt (w : World) (a : Option Addr) (c : Nat) (l : List FileV) : Prop where
  room : l.length ≤ c
  cap : c ≤ maxLen
  at' : l = [] ∨ ∃ b o, a = some ⟨b, o, none⟩ ∧ b < w.heap.size ∧ ∀ (i : Nat) f, l[i]? = some f → FileAt w b (o + i * 3) f
theorem FilesAt.new {w w' : World} {a : Option Addr} {c : Nat} {l : List FileV} (h : FilesAt w a c l) (hn : New w w') : FilesAt w' a c l := by
  refine ⟨h.room, h.cap, ?_⟩
  rcases h.at' with h | ⟨b, o, e, hb, hc⟩
  · exact .inl h
  · exact .inr ⟨b, o, e, Nat.lt_of_lt_of_le hb hn.size, fun i f hf => (hc i f hf).new hn⟩
theorem FilesAt.get {w : World} {a : Option Addr} {c : Nat} {l : List FileV} (h : FilesAt w a c l) (hp : 0 < l.length) : ∃ b o, a = some ⟨b, o, none⟩ ∧ b < w.heap.size ∧ ∀ (i : Nat) (hi : i < l.length), FileAt w b (o + i * 3) l[i] := by
  rcases h.at' with h | ⟨b, o, e, hb, hc⟩
  · simp [h] at hp
  · exact ⟨b, o, e, hb, fun i hi => hc i _ (List.getElem?_eq_getElem hi)⟩
theorem FilesAt.take {w : World} {a : Option Addr} {c : Nat} {l : List FileV} (h : FilesAt w a c l) (k : Nat) : FilesAt w a c (l.take k) := by
  refine ⟨by have := h.room; simp; omega, h.cap, ?_⟩
  rcases h.at' with h | ⟨b, o, e, hb, hc⟩
  · exact .inl (by simp [h])
  · refine .inr ⟨b, o, e, hb, fun i f hf => hc i f ?_⟩
    rw [List.getElem?_take] at hf
    split at hf
    · exact hf
    · cases hf
abbrev frow (pa : Option Addr) (pc : Nat) (f : FileV) : Array Value := #[.slice pa f.path.length pc, .int .i64 f.len, .bool f.pad]
theorem Blk.file {w : World} {b : Nat} {pa : Option Addr} {pc : Nat} {f : FileV} {t : TypeId} (h : Blk w b (frow pa pc f) t) : w.cell? ⟨b, 0, none⟩ = some (.slice pa f.path.length pc) ∧ w.cell? ⟨b, 1, none⟩ = some (.int .i64 f.len) ∧ w.cell? ⟨b, 2, none⟩ = some (.bool f.pad) ∧ (∀ i, w.frozen? ⟨b, i, none⟩ = false) ∧ b < w.heap.size :=
  ⟨h.cellv 0 rfl, h.cellv 1 rfl, h.cellv 2 rfl, h.frz, h.lt⟩
end Go.Proofs.YtbgmkplpolgebaaGreatDoor

namespace Go.Proofs.YtbgmkplpolgebaaGreatDoor
set_option linter.unusedSimpArgs false
set_option linter.unusedVariables false
open Go.RowKit

theorem info_byte : (Tryz.prog.info? 5).map (fun i => (i.zero, i.size, i.bytes)) = some (some (.int .u8 0), 1, 1) := by kernel_rfl
def byV (l : List UInt8) : List Value := l.map (fun b => Value.int .u8 (b.toNat : Int))
theorem byV_app (l r : List UInt8) : byV l ++ byV r = byV (l ++ r) := by simp [byV]
/-- The slice v, of the call's own memory from block base on, holds the bytes l. -/
def OwnY (w : World) (base : Nat) (v : Value) (l : List UInt8) : Prop := w.ownsRow base 5 1 v l.length (byV l)
theorem OwnY.nil (w : World) (base : Nat) : OwnY w base (.slice none 0 0) [] := World.ownsRow_nil _ _ _ _
theorem grown_newY {w w' : World} (n : New w w') (row : Option Nat) : w.grownBy w' row := ⟨n.os, n.tape, n.output, n.size, fun k hk _ => n.block k hk (fun x => x)⟩
theorem OwnY.new {w w' : World} {base : Nat} {v : Value} {l : List UInt8} (h : OwnY w base v l) (n : New w w') : OwnY w' base v l := by
  unfold OwnY at *
  cases hv : v.ownBlock with
  | none => exact h.kept (grown_newY n none) (.inl hv)
  | some k => exact h.kept (grown_newY n none) (.inr (by rw [hv]; simp))
theorem OwnY.form {w : World} {base : Nat} {v : Value} {l : List UInt8} (h : OwnY w base v l) : (v = .slice none 0 0 ∧ l = []) ∨ ∃ g cap, v = .slice (some ⟨g, 0, none⟩) l.length cap ∧ base ≤ g ∧ g < w.heap.size ∧ l.length ≤ cap ∧ cap ≤ maxLen ∧ (∀ (i : Nat) (hi : i < l.length), w.cell? ⟨g, i, none⟩ = some (.int .u8 (l[i].toNat : Int))) ∧ ∀ i, w.frozen? ⟨g, i, none⟩ = false := by
  rcases h.2 with ⟨rfl, hn⟩ | ⟨g, cap, cur, rfl, hbg, hg, hnc, hcm, hcs, htake⟩
  · exact .inl ⟨rfl, List.eq_nil_of_length_eq_zero hn⟩
  · refine .inr ⟨g, cap, rfl, hbg, (Array.getElem?_eq_some_iff.1 hg).1, hnc, hcm, fun i hi => ?_, fun i => by simp [World.frozen?, hg]⟩
    have h1 : (byV l)[i]? = some (.int .u8 (l[i].toNat : Int)) := by simp [byV, hi]
    rw [← htake, List.getElem?_take, if_pos (by omega)] at h1
    simp [World.cell?, hg]
    simpa using h1
theorem ownY_text {w : World} {base : Nat} {v : Value} {l : List UInt8} (h : OwnY w base v l) : (convert 42 9 v).run Tryz.prog w = .ok (.string ⟨l.toArray⟩) w := by
  rcases h.form with ⟨rfl, rfl⟩ | ⟨g, cap, rfl, -, -, -, -, hc, -⟩
  · exact run_convert_bytes_nil w 42 5 Tryz.underlying42 Tryz.underlying5 0 0 9 Tryz.underlying9
  · have := run_convert_bytes_arg (P := Tryz.prog) w 42 5 Tryz.underlying42 Tryz.underlying5 g 0 l.length cap (l.map (fun b => (b.toNat : Int))) (by simp) (fun i hi => by
      rw [Nat.zero_add, hc i hi]
      simp [List.getD, hi]) 9 Tryz.underlying9
    rw [this]
    have e : strOfNums (l.map (fun b => (b.toNat : Int))) = ⟨l.toArray⟩ := by
      unfold strOfNums
      rw [List.map_map]
      have : ((fun n : Int => UInt8.ofNat n.toNat) ∘ fun b : UInt8 => (b.toNat : Int)) = id := by
        funext b
        simp
      rw [this, List.map_id]
    rw [e]
theorem list_take_set {α : Type} (l : List α) (n i : Nat) (x : α) (h : i < n) : (l.set i x).take n = (l.take n).set i x := by
  apply List.ext_getElem?
  intro j
  rw [List.getElem?_take, List.getElem?_set, List.getElem?_set, List.getElem?_take, List.length_take]
  by_cases h1 : j < n
  · rw [if_pos h1, if_pos h1]
    by_cases h2 : i = j
    · rw [if_pos h2, if_pos h2]
      by_cases h3 : i < l.length
      · rw [if_pos h3, if_pos (by omega)]
      · rw [if_neg h3, if_neg (by omega)]
    · rw [if_neg h2, if_neg h2]
  · rw [if_neg h1, if_neg h1, if_neg (by omega)]
/-- A byte of it is written anew. -/
theorem OwnY.put {w : World} {base g cap : Nat} {l : List UInt8} (h : OwnY w base (.slice (some ⟨g, 0, none⟩) l.length cap) l) {i : Nat} (hi : i < l.length) (b : UInt8) : OwnY (w.setCell ⟨g, i, none⟩ (.int .u8 (b.toNat : Int))) base (.slice (some ⟨g, 0, none⟩) l.length cap) (l.set i b) := by
  rcases h.2 with ⟨q, -⟩ | ⟨g', cap', cur, q, hbg, hg, hnc, hcm, hcs, htake⟩
  · cases q
  · injection q with q1 q2 q3
    injection q1 with q1
    injection q1 with q1
    subst q1 q3
    have hb : Blk w g cur 5 := hg
    have hs := hb.set i (.int .u8 (b.toNat : Int))
    refine ⟨by simp [byV], .inr ⟨g, cap, cur.setIfInBounds i (.int .u8 (b.toNat : Int)), by rw [List.length_set], hbg, hs, by rw [List.length_set]; exact hnc, hcm, by simpa using hcs, ?_⟩⟩
    rw [List.length_set, Array.toList_setIfInBounds, list_take_set _ _ _ _ (by omega), htake]
    simp [byV, List.map_set]
theorem OwnY.block {w : World} {base g : Nat} {v : Value} {l : List UInt8} (h : OwnY w base v l) (hv : v.ownBlock = some g) : base ≤ g := by
  rcases h.form with ⟨rfl, -⟩ | ⟨g', cap, rfl, h1, -⟩
  · cases hv
  · injection hv with hv
    subst hv
    exact h1
theorem new_grownY {w w0 w' : World} {base : Nat} {v : Value} {l : List UInt8} (h : OwnY w base v l) (hb : w0.heap.size ≤ base) (n : New w0 w) (g : w.grownBy w' v.ownBlock) : New w0 w' :=
  ⟨g.os.trans n.os, g.tape.trans n.tape, g.output.trans n.output, Nat.le_trans n.size g.size, fun k hk hx => (g.block k (Nat.lt_of_lt_of_le hk n.size) (fun q => by have := h.block q.symm; omega)).trans (n.block k hk hx)⟩
theorem new_putY {w w0 : World} {g i : Nat} {u : Value} (n : New w0 w) (hb : w0.heap.size ≤ g) : New w0 (w.setCell ⟨g, i, none⟩ u) := n.set _ _ (.inr hb)
theorem ownY_of {w : World} {base : Nat} {v : Value} {l : List UInt8} (r : List UInt8) (h : w.ownsRow base 5 1 v (l.length + r.length) (byV l ++ byV r)) : OwnY w base v (l ++ r) := by
  unfold OwnY
  rw [List.length_append, ← byV_app]
  exact h
end Go.Proofs.YtbgmkplpolgebaaGreatDoor

namespace Go.Proofs.YtbgmkplpolgebaaGreatDoor
set_option linter.unusedSimpArgs false
set_option linter.unusedVariables false
open Go.RowKit
theorem Blk.drewN {w : World} {b : Nat} {cs : Array Value} {t : TypeId} (h : Blk w b cs t) (n : Nat) : Blk (w.drewN n) b cs t := h
theorem Mod.drewN {S : Nat → Prop} {a b : World} (h : Mod S a b) (n : Nat) : Mod S a (b.drewN n) := ⟨h.os, h.tape, h.output, h.size, h.block⟩
end Go.Proofs.YtbgmkplpolgebaaGreatDoor
