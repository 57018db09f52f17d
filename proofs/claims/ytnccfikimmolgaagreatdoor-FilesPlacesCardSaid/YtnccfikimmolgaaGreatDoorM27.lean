/-
  Several texts in one, in their build order. What every row over a list of files opens: the list itself, the library's table. Plain facts over the program. No condition.
-/
import Derived.Test.YtnccfikimmolgaaGreatDoorM26
import Derived.Deep.Strs
import Derived.Stop.LaidErr
import Derived.MakeChecks
import Derived.LaidMore
import Derived.ProofKit
import Derived.OpenShut
import Derived.Stop.Joined
namespace Go.Proofs.YtnccfikimmolgaaGreatDoor
set_option linter.unusedSimpArgs false
set_option linter.unusedVariables false
open Go.ChangeShapes Go.WideShapes Go.ChangeAt Go.RowKit Go.Deep

theorem wf_bounds {n : Int} (h : (Lit.int .i64 n).wf = true) : -9223372036854775808 ≤ n ∧ n ≤ 9223372036854775807 := by
  simp [Lit.wf, IntKind.min, IntKind.max, IntKind.signed, IntKind.bits] at h
  omega
theorem own : ownKnob Tryz.prog.godebug = none := by kernel_rfl
theorem laidOut : laidOutB Tryz.prog = true := by kernel_rfl
def tables : List (String × DataW Unit) := Rows.filesPlacesRow.laid
theorem tables_plain (w : World) : laidMetH Tryz.prog tables w = laidMet Tryz.prog tables w := MakeChecks.laidMetH_plain _ _ _ (by kernel_rfl)
theorem tab_global : Tryz.prog.globalNamed "internal/strconv.uint64pow10" = some 3 := by kernel_rfl
theorem tab_type : (Tryz.prog.globals[3]?).map (·.type) = some 182 := by kernel_rfl
theorem tab_of {W : World} (h : laidMetH Tryz.prog tables W) : Tab W := by
  rw [tables_plain] at h
  have h2 := h.tail.tail
  exact Lib.tabIs_of_head (rest := []) (t := 182) (e := 135) (n := 20) tab_global tab_type Tryz.underlying182 Tryz.underlying135 (by kernel_rfl) (by kernel_rfl) h2
theorem door_met (os : Os) (args : Array Value) : laidMetH Tryz.prog tables ((World.doorLaid Tryz.prog 24 os).forCall (fun _ _ => 0) ⟨#[], args, []⟩).memory :=
  laidMetH_of_parts3 (fuel := 8) (laidMet_of_run' 8 (by kernel_rfl) (by kernel_rfl)) (by kernel_rfl) (by kernel_rfl)

section
variable {H : Type} {enc : TypeId × Value → H} {w : World} {base : Nat} {spare : Nat → Bool} {held : Bool}
theorem open_path {fuel : Nat} {v : Value} {x : DataW H × List MemPlace} (h : DataW.trod enc Tryz.prog w base spare held fuel 49 [v] = some x) : ∃ a c p, v = .slice a p.length c ∧ StrsAt w a c p := by
  rcases open_strs Tryz.underlying49 Tryz.underlying9 (by kernel_rfl) h with ⟨hcs, -⟩ | ⟨a, len, cap, m, Sx, hcs, -, hl, hc, hm, -, hx⟩
  · simp at hcs
    subst hcs
    exact ⟨none, 0, [], rfl, by simp, by simp [maxLen], by simp, .inl rfl⟩
  · simp at hcs
    subst hcs
    have hlm : len ≤ m := by rw [hm]; split <;> omega
    refine ⟨some a, cap, (List.range len).map Sx, by simp, by simpa using hl, hc, fun s hs => ?_, ?_⟩
    · simp at hs
      obtain ⟨i, hi, rfl⟩ := hs
      exact (hx i (by omega)).2
    · by_cases hz : len = 0
      · exact .inl (by simp [hz])
      · have h0 := (hx 0 (by omega)).1
        obtain ⟨b, o, sp⟩ := a
        have hs : sp = none := cell_spot h0
        subst hs
        refine .inr ⟨b, o, rfl, World.block_lt_of_cell? _ _ h0, fun i s hi => ?_⟩
        simp only [List.getElem?_map, Option.map_eq_some_iff] at hi
        obtain ⟨j, hj, rfl⟩ := hi
        have hjl : j < len ∧ j = i := by
          have := List.getElem?_eq_some_iff.1 hj
          obtain ⟨hlt, he⟩ := this
          simp at hlt he
          omega
        obtain ⟨hjl, rfl⟩ := hjl
        have := (hx j (by omega)).1
        rw [add_none] at this
        exact this
theorem open_files {fuel : Nat} {cs : List Value} {x : DataW H × List MemPlace} (h : DataW.trod enc Tryz.prog w base spare held fuel 22 cs = some x) : ∃ a c l, cs = [.slice a l.length c] ∧ FilesAt w a c l := by
  rcases open_slice_fields Tryz.underlying22 Tryz.underlying51 (by kernel_rfl) (by kernel_rfl) h with ⟨hcs, _⟩ | ⟨a, len, cap, m, D, Pl, hcs, _, hl, hmx, hmm, _, hcell⟩
  · exact ⟨none, 0, [], by simpa using hcs, by simp, by simp [maxLen], .inl rfl⟩
  · have hlm : len ≤ m := by rw [hmm]; split <;> omega
    have hc : ∀ i, i < len → ∃ f : FileV, ∃ pa pc, w.cell? (a.add (i * 3)) = some (.slice pa f.path.length pc) ∧ w.cell? (a.add (i * 3 + 1)) = some (.int .i64 f.len) ∧ w.cell? (a.add (i * 3 + 2)) = some (.bool f.pad) ∧ StrsAt w pa pc f.path ∧ (-9223372036854775808 ≤ f.len ∧ f.len ≤ 9223372036854775807) := by
      intro i hi
      obtain ⟨ys, n, _, _, _, hfs⟩ := hcell i (by omega)
      obtain ⟨u0, y0, e0, _, t0⟩ := hfs 0 _ rfl
      obtain ⟨u1, y1, e1, _, t1⟩ := hfs 1 _ rfl
      obtain ⟨u2, y2, e2, _, t2⟩ := hfs 2 _ rfl
      obtain ⟨pa, pc, p, rfl, hp⟩ := open_path t0
      obtain ⟨x1, c1, -, wf⟩ := DataW.trod_int Tryz.underlying3 t1
      obtain ⟨x2, c2, -⟩ := DataW.trod_bool Tryz.underlying4 t2
      simp at c1 c2
      subst c1 c2
      refine ⟨⟨p, x1, x2⟩, pa, pc, e0, e1, e2, hp, ?_⟩
      exact wf_bounds wf
    obtain ⟨L, hL, hp⟩ := list_of len hc
    subst hL
    refine ⟨some a, cap, L, hcs, hl, hmx, ?_⟩
    by_cases hz : L.length = 0
    · exact .inl (List.eq_nil_of_length_eq_zero hz)
    · obtain ⟨f, pa, pc, e0, -⟩ := hc 0 (by omega)
      have hs := cell_spot e0
      obtain ⟨b, o, sp⟩ := a
      have hs' : sp = none := hs
      subst hs'
      refine .inr ⟨b, o, rfl, World.block_lt_of_cell? _ _ e0, fun i f hf => ?_⟩
      obtain ⟨pa, pc, q0, q1, q2, q3, q4⟩ := hp i f hf
      rw [add_none] at q0 q1 q2
      exact ⟨pa, pc, q0, by simpa [Nat.add_assoc] using q1, by simpa [Nat.add_assoc] using q2, q3, q4⟩
end
end Go.Proofs.YtnccfikimmolgaaGreatDoor
