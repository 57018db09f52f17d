/-
  Several texts in one, in their build order. A magnet by value, opened: how its lists lie. Plain facts over the program. No condition.
-/
import Derived.Test.YtbgmkplpolgebaaGreatDoorM37
import Derived.Test.YtbgmkplpolgebaaGreatDoorM49
import Derived.Test.YtbgmkplpolgebaaGreatDoorM14
import Derived.Deep.Strs
import Derived.Stop.LaidErr
import Derived.SizedLaws
import Derived.Shelf.Vars
import Derived.Stop.Joined
namespace Go.Proofs.YtbgmkplpolgebaaGreatDoor
set_option linter.unusedSimpArgs false
set_option linter.unusedVariables false
open Go.ChangeShapes Go.WideShapes Go.ChangeAt Go.RowKit Go.Deep

section
variable {H : Type} {enc : TypeId × Value → H} {w : World} {base : Nat} {spare : Nat → Bool} {held : Bool}
theorem open_strsT {fuel : Nat} {v : Value} {x : DataW H × List MemPlace} (h : DataW.trod enc Tryz.prog w base spare held fuel 23 [v] = some x) : ∃ a c p, v = .slice a p.length c ∧ StrsAt w a c p ∧ (a = none → c = 0) := by
  rcases open_strs Tryz.underlying23 Tryz.underlying9 (by kernel_rfl) h with ⟨hcs, -⟩ | ⟨a, len, cap, m, Sx, hcs, -, hl, hc, hm, hxx, hx⟩
  · simp at hcs
    subst hcs
    exact ⟨none, 0, [], rfl, ⟨by simp, by simp [maxLen], by simp, .inl rfl⟩, fun _ => rfl⟩
  · simp at hcs
    subst hcs
    have hlm : len ≤ m := by rw [hm]; split <;> omega
    refine ⟨some a, cap, (List.range len).map Sx, by simp, ⟨by simpa using hl, hc, fun s hs => ?_, ?_⟩, fun q => by cases q⟩
    · simp at hs
      obtain ⟨i, hi, rfl⟩ := hs
      exact (hx i (by omega)).2
    · by_cases hz : len = 0
      · exact .inl (by simp [hz])
      · have h0 := (hx 0 (by omega)).1
        obtain ⟨b, o, sp⟩ := a
        have hs : sp = none := cell_spot h0
        subst hs
        refine .inr ⟨b, o, rfl, World.block_lt_of_cell? _ _ h0, fun i s hi => ?_⟩
        simp only [List.getElem?_map, Option.map_eq_some_iff] at hi
        obtain ⟨j, hj, rfl⟩ := hi
        have hjl : j < len ∧ j = i := by
          have := List.getElem?_eq_some_iff.1 hj
          obtain ⟨hlt, he⟩ := this
          simp at hlt he
          omega
        obtain ⟨hjl, rfl⟩ := hjl
        have := (hx j (by omega)).1
        rw [add_none] at this
        exact this
theorem open_adrsT {fuel : Nat} {v : Value} {x : DataW H × List MemPlace} (h : DataW.trod enc Tryz.prog w base spare held fuel 24 [v] = some x) : ∃ a c l, v = .slice a l.length c ∧ AdrsAt w a c l ∧ (a = none → c = 0) := by
  rcases open_slice_fields Tryz.underlying24 Tryz.underlying64 (by kernel_rfl) (by kernel_rfl) h with ⟨hcs, _⟩ | ⟨a, len, cap, m, D, Pl, hcs, _, hl, hmx, hmm, hxx, hcell⟩
  · simp at hcs
    subst hcs
    exact ⟨none, 0, [], rfl, ⟨by simp, by simp [maxLen], by simp, .inl rfl⟩, fun _ => rfl⟩
  · simp at hcs
    subst hcs
    have hlm : len ≤ m := by rw [hmm]; split <;> omega
    have hc : ∀ i, i < len → ∃ f : AdrV, w.cell? (a.add (i * 3)) = some (.int .i64 f.fam) ∧ w.cell? (a.add (i * 3 + 1)) = some (.string f.ip) ∧ w.cell? (a.add (i * 3 + 2)) = some (.int .i64 f.port) ∧ f.ip.size ≤ maxLen := by
      intro i hi
      obtain ⟨ys, n, hD, _, _, hfs⟩ := hcell i (by omega)
      obtain ⟨u0, y0, e0, -, t0⟩ := hfs 0 _ rfl
      obtain ⟨u1, y1, e1, -, t1⟩ := hfs 1 _ rfl
      obtain ⟨u2, y2, e2, -, t2⟩ := hfs 2 _ rfl
      obtain ⟨x0, c0, -⟩ := DataW.trod_int Tryz.underlying3 t0
      obtain ⟨x1, c1, -, hs⟩ := DataW.trod_string Tryz.underlying9 t1
      obtain ⟨x2, c2, -⟩ := DataW.trod_int Tryz.underlying3 t2
      simp at c0 c1 c2
      subst c0 c1 c2
      exact ⟨⟨x0, x1, x2⟩, e0, e1, e2, hs⟩
    obtain ⟨L, hL, hp⟩ := list_of len hc
    subst hL
    refine ⟨some a, cap, L, rfl, ⟨hl, hmx, fun f hf => ?_, ?_⟩, fun q => by cases q⟩
    · obtain ⟨i, hi⟩ := List.getElem?_of_mem hf
      exact (hp i f hi).2.2.2
    · by_cases hz : L.length = 0
      · exact .inl (List.eq_nil_of_length_eq_zero hz)
      · obtain ⟨f, e0, -⟩ := hc 0 (by omega)
        have hs := cell_spot e0
        obtain ⟨b, o, sp⟩ := a
        have hs' : sp = none := hs
        subst hs'
        refine .inr ⟨b, o, rfl, World.block_lt_of_cell? _ _ e0, fun i f hf => ?_⟩
        obtain ⟨q0, q1, q2, -⟩ := hp i f hf
        rw [add_none] at q0 q1 q2
        exact ⟨q0, by simpa [Nat.add_assoc] using q1, by simpa [Nat.add_assoc] using q2⟩
theorem open_rnsT {fuel : Nat} {v : Value} {x : DataW H × List MemPlace} (h : DataW.trod enc Tryz.prog w base spare held fuel 25 [v] = some x) : ∃ a c l, v = .slice a l.length c ∧ RnsAt w a c l := by
  rcases open_slice_fields Tryz.underlying25 Tryz.underlying66 (by kernel_rfl) (by kernel_rfl) h with ⟨hcs, _⟩ | ⟨a, len, cap, m, D, Pl, hcs, _, hl, hmx, hmm, hxx, hcell⟩
  · simp at hcs
    subst hcs
    exact ⟨none, 0, [], rfl, ⟨by simp, by simp [maxLen], .inl rfl⟩⟩
  · simp at hcs
    subst hcs
    have hlm : len ≤ m := by rw [hmm]; split <;> omega
    have hc : ∀ i, i < len → ∃ f : Int × Int, w.cell? (a.add (i * 2)) = some (.int .i64 f.1) ∧ w.cell? (a.add (i * 2 + 1)) = some (.int .i64 f.2) := by
      intro i hi
      obtain ⟨ys, n, hD, _, _, hfs⟩ := hcell i (by omega)
      obtain ⟨u0, y0, e0, -, t0⟩ := hfs 0 _ rfl
      obtain ⟨u1, y1, e1, -, t1⟩ := hfs 1 _ rfl
      obtain ⟨x0, c0, -⟩ := DataW.trod_int Tryz.underlying3 t0
      obtain ⟨x1, c1, -⟩ := DataW.trod_int Tryz.underlying3 t1
      simp at c0 c1
      subst c0 c1
      exact ⟨⟨x0, x1⟩, e0, e1⟩
    obtain ⟨L, hL, hp⟩ := list_of len hc
    subst hL
    refine ⟨some a, cap, L, rfl, ⟨hl, hmx, ?_⟩⟩
    by_cases hz : L.length = 0
    · exact .inl (List.eq_nil_of_length_eq_zero hz)
    · obtain ⟨f, e0, -⟩ := hc 0 (by omega)
      have hs := cell_spot e0
      obtain ⟨b, o, sp⟩ := a
      have hs' : sp = none := hs
      subst hs'
      refine .inr ⟨b, o, rfl, World.block_lt_of_cell? _ _ e0, fun i f hf => ?_⟩
      obtain ⟨q0, q1⟩ := hp i f hf
      rw [add_none] at q0 q1
      exact ⟨q0, by simpa [Nat.add_assoc] using q1⟩
set_option maxRecDepth 100000 in
/-- A magnet. -/
theorem open_magX {r : Reach} {b0 : Nat} {v : Value} {d : DataW H} {p : List MemPlace} (hv : Value.okWide Tryz.prog w r b0 27 v) (h : DataW.Trod enc Tryz.prog w base spare held 27 v d p) :
    ∃ (m : MgV) (P : MgP), v = magVal m P ∧ MagAt w m P ∧ Tidy P := by
  obtain ⟨cs, xs, n, rfl, hsz, -, hf⟩ := open_aggN Tryz.underlying27 (by kernel_rfl) (by kernel_rfl) hv h
  obtain ⟨u0, y0, e0, -, t0⟩ := hf 0 _ rfl
  obtain ⟨u1, y1, e1, -, t1⟩ := hf 1 _ rfl
  obtain ⟨u2, y2, e2, -, t2⟩ := hf 2 _ rfl
  obtain ⟨u3, y3, e3, -, t3⟩ := hf 3 _ rfl
  obtain ⟨u4, y4, e4, -, t4⟩ := hf 4 _ rfl
  obtain ⟨u5, y5, e5, -, t5⟩ := hf 5 _ rfl
  obtain ⟨u6, y6, e6, -, t6⟩ := hf 6 _ rfl
  obtain ⟨s0, c0, -⟩ := DataW.trod_string Tryz.underlying9 t0
  obtain ⟨s1, c1, -⟩ := DataW.trod_string Tryz.underlying9 t1
  obtain ⟨s2, c2, -⟩ := DataW.trod_string Tryz.underlying9 t2
  simp at c0 c1 c2
  subst c0 c1 c2
  obtain ⟨ta, tc, T, rfl, hT, gT⟩ := open_strsT t3
  obtain ⟨pa, pc, P, rfl, hP, gP⟩ := open_adrsT t4
  obtain ⟨sa, sc, S, rfl, hS, gS⟩ := open_strsT t5
  obtain ⟨oa, oc, O, rfl, hO⟩ := open_rnsT t6
  refine ⟨⟨s0, s1, s2, T, P, S, O, false, false⟩, ⟨ta, tc, pa, pc, sa, sc, oa, oc⟩, ?_, ⟨hT, hP, hS, hO⟩, ⟨gT, gP, gS⟩⟩
  obtain ⟨q⟩ := cs
  match q, hsz with
  | [a, b, c, d, e, f, g], _ =>
    simp at e0 e1 e2 e3 e4 e5 e6
    simp only [magVal, magRow]
    rw [e0, e1, e2, e3, e4, e5, e6]
end
end Go.Proofs.YtbgmkplpolgebaaGreatDoor
