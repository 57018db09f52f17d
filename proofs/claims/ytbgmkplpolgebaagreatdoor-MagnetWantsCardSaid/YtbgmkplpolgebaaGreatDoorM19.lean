/-
  Several texts in one, in their build order. The walk of Decimal (the reference): the decimal text of a number. Condition: an int. The library's ParseUint at base 10 and 16, of numbers below 2 to the 31st. Conditions: the text is small; the library's errors are as laid. The library's variables; its Itoa and FormatUint. Conditions: the variables are as laid.
-/
import Derived.Test.YtbgmkplpolgebaaGreatDoorM1
import Derived.Laws.BytesArg
import Derived.Test.YtbgmkplpolgebaaGreatDoorM15
import Derived.Test.YtbgmkplpolgebaaGreatDoorM4
import Derived.Test.YtbgmkplpolgebaaGreatDoorM9
import Derived.Test.YtbgmkplpolgebaaGreatDoorM2
import Derived.Lib.ItoaMem
namespace Go.Proofs.YtbgmkplpolgebaaGreatDoor
set_option linter.unusedSimpArgs false
set_option linter.unusedVariables false
open Go.RowKit

end Go.Proofs.YtbgmkplpolgebaaGreatDoor

namespace Go.Proofs.YtbgmkplpolgebaaGreatDoor
set_option linter.unusedSimpArgs false
set_option linter.unusedVariables false
open Go.RowKit Go.Shelf

def numErr (k : Int) : Value := .iface 219 (.int .i64 k)
/-- What is told: the number, or an error. -/
def PuTold (r : Option Nat) (e : Ending) : Prop := ∃ (x : Int) (E : Value), e = .returned (.tuple #[.int .u64 x, E]) ∧ 0 ≤ x ∧ x ≤ 2147483647 ∧ ((∃ u : Nat, r = some u ∧ x = u ∧ E = .nilIface) ∨ (r = none ∧ (E = numErr 1 ∨ E = numErr 2)))
theorem PuTold.yes {r : Option Nat} {u : Nat} (h : r = some u) (hu : u ≤ 2147483647) : PuTold r (.returned (.tuple #[.int .u64 (u : Int), .nilIface])) := ⟨_, _, rfl, by omega, by omega, .inl ⟨u, h, rfl, rfl⟩⟩
theorem PuTold.no {r : Option Nat} {x : Int} {E : Value} (h : r = none) (h0 : 0 ≤ x) (h1 : x ≤ 2147483647) (hE : E = numErr 1 ∨ E = numErr 2) : PuTold r (.returned (.tuple #[.int .u64 x, E])) := ⟨_, _, rfl, h0, h1, .inr ⟨h, hE⟩⟩
end Go.Proofs.YtbgmkplpolgebaaGreatDoor

namespace Go.Proofs.YtbgmkplpolgebaaGreatDoor
set_option linter.unusedSimpArgs false
set_option linter.unusedVariables false
open Go.RowKit Go.Shelf Go.Sort

/-- The table of the library's Itoa is as it was laid. -/
def Tab (w : World) : Prop := Lib.TabIs Tryz.prog w "internal/strconv.uint64pow10" .u64 Lib.pow10Tab
theorem Tab.new {w w' : World} (h : Tab w) (hn : New w w') : Tab w' := by
  unfold Tab Lib.TabIs World.var? at *
  cases hg : Tryz.prog.globalNamed "internal/strconv.uint64pow10" with
  | none => rw [hg] at h; simp at h
  | some g =>
    rw [hg] at h
    simp only [Option.bind_some] at h ⊢
    have hlt : g < w.heap.size := by
      rcases Nat.lt_or_ge g w.heap.size with h' | h'
      · exact h'
      · simp [Array.getElem?_eq_none h'] at h
    rw [hn.block g hlt (fun x => x)]
    exact h
theorem New.of_below {w w' : World} (h : Below w.heap.size w w') : New w w' :=
  ⟨h.os, h.tape, h.output, h.size, fun k hk _ => h.block k hk⟩
theorem var_new {w w' : World} {name : String} {cs : Array Value} (h : w.var? Tryz.prog name = some cs) (hn : New w w') : w'.var? Tryz.prog name = some cs := by
  unfold World.var? at *
  cases hg : Tryz.prog.globalNamed name with
  | none => rw [hg] at h; simp at h
  | some g =>
    rw [hg] at h
    simp only [Option.bind_some] at h ⊢
    have hlt : g < w.heap.size := by
      rcases Nat.lt_or_ge g w.heap.size with h' | h'
      · exact h'
      · simp [Array.getElem?_eq_none h'] at h
    rw [hn.block g hlt (fun x => x)]
    exact h
/-- The library's variables. -/
structure VarP (w : World) : Prop where
  tab : Tab w
  syn : ∃ tp p, w.var? Tryz.prog "strconv.ErrSyntax" = some #[.iface tp p]
  rng : ∃ tp p, w.var? Tryz.prog "strconv.ErrRange" = some #[.iface tp p]
  max : ∃ m, w.cell? ⟨0, 0, none⟩ = some (.int .i64 m)
  tz : w.cell? ⟨8, 15, none⟩ = some (.int .u8 4)
theorem VarP.new {w w' : World} (h : VarP w) (hn : New w w') : VarP w' := by
  obtain ⟨h1, ⟨tp, p, h2⟩, ⟨tq, q, h3⟩, ⟨m, h4⟩, h5⟩ := h
  exact ⟨h1.new hn, ⟨tp, p, var_new h2 hn⟩, ⟨tq, q, var_new h3 hn⟩, ⟨m, hn.cellv h4⟩, hn.cellv h5⟩
end Go.Proofs.YtbgmkplpolgebaaGreatDoor
