/-
  The walk of Format of package files, for every list. Conditions: the list lies as told; the library's table is as laid.
-/
import Derived.Test.YtnhgichiedninaaDoorTxO
import Derived.Test.YtnhgichiedninaaDoorBlf
import Derived.Test.YtnhgichiedninaaDoorPath
import Derived.Test.YtnhgichiedninaaDoorQuiet
import Derived.Deep.RegionHeld3
import Derived.Laws.Concat
namespace Go.Proofs.YtnhgichiedninaaDoor
set_option linter.unusedSimpArgs false
set_option linter.unusedVariables false
open Go.RowKit Go.Shelf

/-- What is told of a valid list's file. -/
def GoodT (f : FileV) : Prop := 0 ≤ f.len ∧ f.len ≤ 65536 ∧ f.path.length ≤ 8 ∧ (joinB f.path).size ≤ 360 ∧ (fmtLine f).length ≤ 361
theorem good_of {l : List FileV} (h : validOf l = true) : ∀ f ∈ l, GoodT f := by
  intro f hf
  obtain ⟨a, b, c, d, e⟩ := valid_file h f hf
  obtain ⟨-, -, q⟩ := bare_ok a b c d e
  have hj : (joinB f.path).size = (joinB f.path).data.toList.length := by rw [Array.length_toList]; rfl
  refine ⟨a, b, d, ?_, ?_⟩
  · rw [hj]
    unfold bareLine at q
    simp only [List.length_append] at q
    omega
  · rw [fmt_bare, List.length_append, List.length_cons]
    simp only [List.length_nil]
    omega
theorem fmt_len : ∀ {l : List FileV}, (∀ f ∈ l, GoodT f) → (l.flatMap fmtLine).length ≤ 361 * l.length
  | [], _ => by simp
  | f :: r, h => by
    have h1 := fmt_len (l := r) (fun g hg => h g (by simp [hg]))
    have h2 := (h f (by simp)).2.2.2.2
    rw [List.flatMap_cons, List.length_append, List.length_cons]
    omega
theorem fmt_next {l : List FileV} {k : Nat} (h : k < l.length) : (l.take (k + 1)).flatMap fmtLine = (l.take k).flatMap fmtLine ++ fmtLine l[k] := by
  rw [List.take_succ_eq_append_getElem h, List.flatMap_append]
  simp
def tailLine (f : FileV) : ByteArray := itoaB f.len ++ ⟨#[32]⟩ ++ joinB f.path ++ ⟨#[10]⟩
theorem tailLine_data (f : FileV) : fmtLine f = (if f.pad then [42] else []) ++ (tailLine f).data.toList := by
  simp [fmtLine, tailLine, itoaB, List.append_assoc]
/-- What the walk of a line needs of the world. -/
structure Fm (w Q : World) (xb b0 : Nat) (pa : Option Addr) (pc : Nat) (f : FileV) (acc : List UInt8) (pv : Bool) : Prop where
  n : New w Q
  x : Blk Q xb #[.slice pa f.path.length pc, .int .i64 f.len, .bool pv] 37
  b : Bld Q b0 acc
theorem Fm.new {w Q Q' : World} {xb b0 : Nat} {pa : Option Addr} {pc : Nat} {f : FileV} {acc : List UInt8} {pv : Bool} (h : Fm w Q xb b0 pa pc f acc pv) (n : New Q Q') : Fm w Q' xb b0 pa pc f acc pv := ⟨h.n.trans n, n.blk h.x, h.b.new n⟩
theorem Fm.drew {w Q : World} {xb b0 : Nat} {pa : Option Addr} {pc : Nat} {f : FileV} {acc : List UInt8} {pv : Bool} (h : Fm w Q xb b0 pa pc f acc pv) : Fm w Q.drew xb b0 pa pc f acc pv := h.new (Mod.drew (Mod.refl _ _))
theorem Fm.wrote {w Q Q' : World} {xb b0 : Nat} {pa : Option Addr} {pc : Nat} {f : FileV} {acc acc' : List UInt8} {pv : Bool} (h : Fm w Q xb b0 pa pc f acc pv) (n : Wrote b0 Q Q') (hx : xb ≠ b0) (hb : w.heap.size ≤ b0) (b : Bld Q' b0 acc') : Fm w Q' xb b0 pa pc f acc' pv :=
  ⟨Wrote.new h.n n hb, n.blk h.x hx (by decide), b⟩
theorem Fm.cells {w Q : World} {xb b0 : Nat} {pa : Option Addr} {pc : Nat} {f : FileV} {acc : List UInt8} {pv : Bool} (h : Fm w Q xb b0 pa pc f acc pv) : Q.cell? ⟨xb, 0, none⟩ = some (.slice pa f.path.length pc) ∧ Q.cell? ⟨xb, 1, none⟩ = some (.int .i64 f.len) := ⟨h.x.cellv 0 rfl, h.x.cellv 1 rfl⟩
end Go.Proofs.YtnhgichiedninaaDoor
