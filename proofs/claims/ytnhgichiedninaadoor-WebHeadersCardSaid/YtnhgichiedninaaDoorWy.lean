/-
  The walks of the reference's Total; of package files: the ways of pieces, how many there are. Conditions: the list lies as told; the library's table is as laid.
-/
import Derived.Test.YtnhgichiedninaaDoorVa
import Derived.Test.YtnhgichiedninaaDoorRw
namespace Go.Proofs.YtnhgichiedninaaDoor
set_option linter.unusedSimpArgs false
set_option linter.unusedVariables false
open Go.RowKit

theorem rvalid_t (a : Option Addr) (c : Nat) (l : List FileV) (w : World) (h : FilesAt w a c l) (ht : Tab w) :
    Calls Tryd.prog 14 #[.slice a l.length c] w fun e w' => e = .returned (.bool (validOf l)) ∧ New w w' := rvalid_any a c l w h
def hasN (f : FileV) : Bool := decide (0 < f.len) && !f.pad
def countOf (f : FileV) (piece : Int) : Int := if hasN f then (f.len + piece - 1) / piece else 0
def countsOf (l : List FileV) (piece : Int) : Int := (l.map (countOf · piece)).sum
theorem counts_next {l : List FileV} {k : Nat} {piece : Int} (h : k < l.length) : countsOf (l.take (k + 1)) piece = countsOf (l.take k) piece + countOf l[k] piece := by
  unfold countsOf
  rw [List.take_add_one, List.getElem?_eq_getElem h]
  simp only [Option.toList, List.map_append, List.map_cons, List.map_nil, List.sum_append, List.sum_cons, List.sum_nil]
  omega
theorem count_bound {f : FileV} {piece : Int} (h1 : 0 ≤ f.len) (h2 : f.len ≤ 65536) (h3 : 16 ≤ piece) (h4 : piece ≤ 1024) : 0 ≤ countOf f piece ∧ countOf f piece ≤ 70000 := by
  unfold countOf
  split
  · have := Int.ediv_nonneg (show 0 ≤ f.len + piece - 1 by omega) (show 0 ≤ piece by omega)
    have := Int.ediv_le_self piece (show 0 ≤ f.len + piece - 1 by omega)
    omega
  · omega
/-- The way of pieces, or the error. -/
def wayErr (l : List FileV) (piece : Int) : Int := if validOf l then (if pieceOf piece then 0 else 7) else 1
theorem way_ok {l : List FileV} {piece : Int} (h : wayErr l piece = 0) : validOf l = true ∧ pieceOf piece = true := by
  unfold wayErr at h
  split at h
  · split at h
    · next a b => exact ⟨a, b⟩
    · cases h
  · cases h
/-- Pieces. -/
def piecesOf (l : List FileV) (piece : Int) (new : Bool) : Int := if new then countsOf l piece else (sumOf l + piece - 1) / piece
theorem piece_range {piece : Int} (h : pieceOf piece = true) : 16 ≤ piece ∧ piece ≤ 1024 := by
  simp only [pieceOf, decide_eq_true_eq] at h
  omega
theorem each_len {l : List FileV} (h0 : ∀ f ∈ l, 0 ≤ f.len) : ∀ f ∈ l, f.len ≤ sumOf l := by
  induction l with
  | nil => simp
  | cons x r ih =>
    intro f hf
    have hr := ih (fun g hg => h0 g (.tail _ hg))
    have hx := h0 x (.head _)
    have hs := (sum_mono r (fun g hg => h0 g (.tail _ hg)) 0).2
    simp only [sumOf, List.take_zero, List.map_nil, List.sum_nil, List.map_cons, List.sum_cons] at *
    cases hf with
    | head => omega
    | tail _ hf => have := hr f hf; omega
end Go.Proofs.YtnhgichiedninaaDoor
