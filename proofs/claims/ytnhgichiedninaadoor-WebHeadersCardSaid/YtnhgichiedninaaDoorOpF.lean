/-
  What a row over a list of files opens: the list itself with its reach, the library's table of powers. Plain facts over the program. No condition.
-/
import Derived.Test.YtnhgichiedninaaDoorMem5
import Derived.Test.YtnhgichiedninaaDoorPath
import Derived.Test.YtnhgichiedninaaDoorOpen
import Derived.Test.YtnhgichiedninaaDoorFrm
import Derived.Deep.Strs
import Derived.Stop.LaidErr
import Derived.SizedLaws
import Derived.Shelf.Vars
import Derived.Stop.Joined
namespace Go.Proofs.YtnhgichiedninaaDoor
set_option linter.unusedSimpArgs false
set_option linter.unusedVariables false
open Go.ChangeShapes Go.WideShapes Go.ChangeAt Go.RowKit Go.Deep

theorem wf_bounds {n : Int} (h : (Lit.int .i64 n).wf = true) : -9223372036854775808 ≤ n ∧ n ≤ 9223372036854775807 := by
  simp [Lit.wf, IntKind.min, IntKind.max, IntKind.signed, IntKind.bits] at h
  omega
theorem tab_global : Tryd.prog.globalNamed "internal/strconv.uint64pow10" = some 4 := by kernel_rfl
theorem tab_type : (Tryd.prog.globals[4]?).map (·.type) = some 116 := by kernel_rfl
theorem tab_head {W : World} {r : List (String × DataW Unit)} (h : laidMet Tryd.prog (("internal/strconv.uint64pow10", Rows.laid_internal_strconv_uint64pow10) :: r) W) : Tab W :=
  Lib.tabIs_of_head (t := 116) (e := 94) (n := 20) tab_global tab_type Tryd.underlying116 Tryd.underlying94 (by kernel_rfl) (by kernel_rfl) h
theorem laid_iface {P : Program} {n nm : String} {d : DataW Unit} {r : List (String × DataW Unit)} {W : World} {g : Nat} {ti : TypeId} {ms : Array (String × TypeId)} (h : laidMet P ((n, .iface nm d) :: r) W) (hg : P.globalNamed n = some g) (ht : (P.globals[g]?).map (·.type) = some ti) (hi : P.underlying ti = some (.interface ms)) :
    ∃ tp v, W.var? P n = some #[.iface tp v] := by
  obtain ⟨ps, ⟨g0, t0, cs0, f0, p0, q0, hg0, ht0, hv0, hd0, -, -⟩, -⟩ := h
  obtain rfl := Option.some.inj (hg.symm.trans hg0)
  obtain rfl := Option.some.inj (ht.symm.trans ht0)
  obtain ⟨f1, u, v, hc, -, -⟩ := iface_of_trod hi hd0
  refine ⟨u, v, ?_⟩
  rw [hv0]
  congr 1
  apply Array.toList_inj.1
  rw [hc]
theorem weightsAll_mem {H : Type} {P : Program} {e : TypeId} : ∀ {ds : List (DataW H)} {d : DataW H}, d ∈ ds → ∀ n ∈ d.weights P e, n ∈ DataW.weightsAll P e ds
  | x :: r, d, h, n, hn => by
    simp only [DataW.weightsAll, List.mem_append]
    rcases List.mem_cons.1 h with rfl | h
    · exact .inl hn
    · exact .inr (weightsAll_mem h n hn)
section
variable {H : Type} {enc : TypeId × Value → H} {w : World} {base : Nat} {spare : Nat → Bool} {held : Bool}
/-- A path opened, and its texts among what is weighed. -/
theorem open_pathW {fuel : Nat} {v : Value} {x : DataW H × List MemPlace} (h : DataW.trod enc Tryd.prog w base spare held fuel 35 [v] = some x) : ∃ a c p, v = .slice a p.length c ∧ StrsAt w a c p ∧ ∀ s ∈ p, s.size ∈ x.1.weights Tryd.prog 35 := by
  rcases open_strs Tryd.underlying35 Tryd.underlying9 (by kernel_rfl) h with ⟨hcs, -⟩ | ⟨a, len, cap, m, Sx, hcs, -, hl, hc, hm, hxx, hx⟩
  · simp at hcs
    subst hcs
    exact ⟨none, 0, [], rfl, ⟨by simp, by simp [maxLen], by simp, .inl rfl⟩, by simp⟩
  · simp at hcs
    subst hcs
    have hlm : len ≤ m := by rw [hm]; split <;> omega
    refine ⟨some a, cap, (List.range len).map Sx, by simp, ⟨by simpa using hl, hc, fun s hs => ?_, ?_⟩, fun s hs => ?_⟩
    · simp at hs
      obtain ⟨i, hi, rfl⟩ := hs
      exact (hx i (by omega)).2
    · by_cases hz : len = 0
      · exact .inl (by simp [hz])
      · have h0 := (hx 0 (by omega)).1
        obtain ⟨b, o, sp⟩ := a
        have hs : sp = none := cell_spot h0
        subst hs
        refine .inr ⟨b, o, rfl, World.block_lt_of_cell? _ _ h0, fun i s hi => ?_⟩
        simp only [List.getElem?_map, Option.map_eq_some_iff] at hi
        obtain ⟨j, hj, rfl⟩ := hi
        have hjl : j < len ∧ j = i := by
          have := List.getElem?_eq_some_iff.1 hj
          obtain ⟨hlt, he⟩ := this
          simp at hlt he
          omega
        obtain ⟨hjl, rfl⟩ := hjl
        have := (hx j (by omega)).1
        rw [add_none] at this
        exact this
    · obtain ⟨i, hi, rfl⟩ := List.mem_map.1 hs
      rw [hxx]
      simp only [DataW.weights, Tryd.underlying35, List.mem_cons, List.mem_append]
      refine .inr (.inl (weightsAll_mem (List.mem_map.2 ⟨i, hi, rfl⟩) _ ?_))
      have e : (Sx i).data.toList.length = (Sx i).size := by rw [Array.length_toList]; rfl
      simp only [DataW.weights, List.mem_singleton, e]
/-- A list of files opened, and its texts among what is weighed. -/
theorem open_filesW {fuel : Nat} {cs : List Value} {x : DataW H × List MemPlace} (h : DataW.trod enc Tryd.prog w base spare held fuel 22 cs = some x) : ∃ a c l, cs = [.slice a l.length c] ∧ FilesAt w a c l ∧ ∀ f ∈ l, ∀ s ∈ f.path, s.size ∈ x.1.weights Tryd.prog 22 := by
  rcases open_slice_fields Tryd.underlying22 Tryd.underlying37 (by kernel_rfl) (by kernel_rfl) h with ⟨hcs, _⟩ | ⟨a, len, cap, m, D, Pl, hcs, _, hl, hmx, hmm, hxx, hcell⟩
  · exact ⟨none, 0, [], by simpa using hcs, ⟨by simp, by simp [maxLen], .inl rfl⟩, by simp⟩
  · have hlm : len ≤ m := by rw [hmm]; split <;> omega
    have hc : ∀ i, i < len → ∃ f : FileV, ∃ pa pc, w.cell? (a.add (i * 3)) = some (.slice pa f.path.length pc) ∧ w.cell? (a.add (i * 3 + 1)) = some (.int .i64 f.len) ∧ w.cell? (a.add (i * 3 + 2)) = some (.bool f.pad) ∧ StrsAt w pa pc f.path ∧ (-9223372036854775808 ≤ f.len ∧ f.len ≤ 9223372036854775807) ∧ ∀ s ∈ f.path, s.size ∈ x.1.weights Tryd.prog 22 := by
      intro i hi
      obtain ⟨ys, n, hD, _, _, hfs⟩ := hcell i (by omega)
      obtain ⟨u0, y0, e0, z0, t0⟩ := hfs 0 _ rfl
      obtain ⟨u1, y1, e1, _, t1⟩ := hfs 1 _ rfl
      obtain ⟨u2, y2, e2, _, t2⟩ := hfs 2 _ rfl
      obtain ⟨pa, pc, p, rfl, hp, hw⟩ := open_pathW t0
      obtain ⟨x1, c1, -, wf⟩ := DataW.trod_int Tryd.underlying3 t1
      obtain ⟨x2, c2, -⟩ := DataW.trod_bool Tryd.underlying4 t2
      simp at c1 c2
      subst c1 c2
      refine ⟨⟨p, x1, x2⟩, pa, pc, e0, e1, e2, hp, wf_bounds wf, fun s hs => ?_⟩
      rw [hxx]
      simp only [DataW.weights, Tryd.underlying22, List.mem_cons, List.mem_append]
      refine .inr (.inl (weightsAll_mem (List.mem_map.2 ⟨i, List.mem_range.2 hi, rfl⟩) _ ?_))
      rw [hD]
      simp only [DataW.weights, Tryd.underlying37]
      refine DataW.weights_mem_each (j := 0) (t := 35) (d := y0.1) rfl ?_ _ (hw s hs)
      rw [List.getElem?_map, z0]
      rfl
    obtain ⟨L, hL, hp⟩ := list_of len hc
    subst hL
    refine ⟨some a, cap, L, hcs, ⟨hl, hmx, ?_⟩, fun f hf => ?_⟩
    · by_cases hz : L.length = 0
      · exact .inl (List.eq_nil_of_length_eq_zero hz)
      · obtain ⟨f, pa, pc, e0, -⟩ := hc 0 (by omega)
        have hs := cell_spot e0
        obtain ⟨b, o, sp⟩ := a
        have hs' : sp = none := hs
        subst hs'
        refine .inr ⟨b, o, rfl, World.block_lt_of_cell? _ _ e0, fun i f hf => ?_⟩
        obtain ⟨pa, pc, q0, q1, q2, q3, q4, -⟩ := hp i f hf
        rw [add_none] at q0 q1 q2
        exact ⟨pa, pc, q0, by simpa [Nat.add_assoc] using q1, by simpa [Nat.add_assoc] using q2, q3, q4⟩
    · obtain ⟨i, hi, rfl⟩ := List.mem_iff_getElem.1 hf
      obtain ⟨-, -, -, -, -, -, -, q⟩ := hp i _ (List.getElem?_eq_getElem hi)
      exact q
end
/-- Each text of a list that came in takes what the reach allows. -/
theorem small_of {H : Type} {ts : List TypeId} {ds : List (DataW H)} {j : Nat} {d : DataW H} {l : List FileV} (h : (DataW.weightsEach Tryd.prog ts ds).all (· ≤ reachBytes) = true) (ht : ts[j]? = some 22) (hd : ds[j]? = some d) (hm : ∀ f ∈ l, ∀ s ∈ f.path, s.size ∈ d.weights Tryd.prog 22) : ∀ f ∈ l, ∀ s ∈ f.path, s.size ≤ 140737488355328 := fun f hf s hs => by
  have := List.all_eq_true.1 h _ (DataW.weights_mem_each ht hd _ (hm f hf s hs))
  have h2 : s.size ≤ reachBytes := by simpa using this
  have h3 := reachBytes_lt
  have h4 : (2 : Nat) ^ 47 = 140737488355328 := by decide
  omega
end Go.Proofs.YtnhgichiedninaaDoor
