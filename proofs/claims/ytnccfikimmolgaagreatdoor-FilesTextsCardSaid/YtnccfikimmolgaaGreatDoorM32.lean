/-
  Several texts in one, in their build order. What the library does for Parse: cuts, splits, numbers. Conditions: the library's variables are as laid; texts are small. What the law over texts opens: the library's variables, the reach of each text. Plain facts over the program. No condition.
-/
import Derived.Test.YtnccfikimmolgaaGreatDoorM31
import Derived.Test.YtnccfikimmolgaaGreatDoorM19
import Derived.SizedLaws
import Derived.Shelf.Vars
namespace Go.Proofs.YtnccfikimmolgaaGreatDoor
set_option linter.unusedSimpArgs false
set_option linter.unusedVariables false
open Go.RowKit Go.Shelf

theorem var_new {w w' : World} {name : String} {cs : Array Value} (h : w.var? Tryz.prog name = some cs) (hn : New w w') : w'.var? Tryz.prog name = some cs := by
  unfold World.var? at *
  cases hg : Tryz.prog.globalNamed name with
  | none => rw [hg] at h; simp at h
  | some g =>
    rw [hg] at h
    simp only [Option.bind_some] at h ⊢
    have hlt : g < w.heap.size := by
      rcases Nat.lt_or_ge g w.heap.size with h' | h'
      · exact h'
      · simp [Array.getElem?_eq_none h'] at h
    rw [hn.block g hlt (fun x => x)]
    exact h
/-- The library's variables. -/
structure Vars (w : World) : Prop where
  tab : Tab w
  syn : ∃ tp p, w.var? Tryz.prog "strconv.ErrSyntax" = some #[.iface tp p]
  rng : ∃ tp p, w.var? Tryz.prog "strconv.ErrRange" = some #[.iface tp p]
  max : ∃ m, w.cell? ⟨0, 0, none⟩ = some (.int .i64 m)
theorem Vars.new {w w' : World} (h : Vars w) (hn : New w w') : Vars w' := by
  obtain ⟨h1, ⟨tp, p, h2⟩, ⟨tq, q, h3⟩, ⟨m, h4⟩⟩ := h
  exact ⟨h1.new hn, ⟨tp, p, var_new h2 hn⟩, ⟨tq, q, var_new h3 hn⟩, ⟨m, hn.cellv h4⟩⟩
theorem piece_le (sv : List UInt8) (hs : sv.length ≤ 1) (c : UInt8) : ∀ (s : List UInt8), ∀ x ∈ pieces sv c s, x.length ≤ s.length + 1
  | [], x, h => by simp [pieces] at h; subst h; simp
  | b :: l, x, h => by
    have ih := piece_le sv hs c l
    rw [pieces] at h
    split at h
    · rcases List.mem_cons.1 h with rfl | h
      · simp; omega
      · have := ih x h; simp; omega
    · cases hp : pieces sv c l with
      | nil => exact absurd hp (pieces_ne sv c l)
      | cons y r =>
        rw [hp, consHead] at h
        rcases List.mem_cons.1 h with rfl | h
        · have := ih y (by rw [hp]; simp); simp at *; omega
        · have := ih x (by rw [hp]; simp [h]); simp; omega
theorem pieces_len (sv : List UInt8) (c : UInt8) : ∀ (s : List UInt8), (pieces sv c s).length = s.count c + 1
  | [] => rfl
  | b :: l => by
    have ih := pieces_len sv c l
    rw [pieces]
    by_cases e : b = c
    · subst e
      rw [if_pos rfl, List.length_cons, ih, List.count_cons_self]
    · rw [if_neg e, List.count_cons_of_ne e, ← ih]
      cases hp : pieces sv c l with
      | nil => exact absurd hp (pieces_ne sv c l)
      | cons y r => rfl
theorem splitB_pieces (c : UInt8) (save : Nat) (hs : save ≤ 1) (s : ByteArray) : Lib.splitB ⟨#[c]⟩ save (s.data.toList.count c) s = (pieces (if save = 0 then [] else [c]) c s.data.toList).map mkB := by
  have h1 := Lib.splitB_data ⟨#[c]⟩ save (s.data.toList.count c) s
  rw [show (⟨#[c]⟩ : ByteArray).data.toList = [c] from rfl, splitK_one c save hs] at h1
  rw [← h1, List.map_map]
  conv => lhs; rw [← List.map_id (Lib.splitB ⟨#[c]⟩ save (s.data.toList.count c) s)]
  apply List.map_congr_left
  intro x _
  exact (data_mkB x).symm
theorem countB_one (s : ByteArray) (c : UInt8) : Lib.countB s ⟨#[c]⟩ = s.data.toList.count c := Lib.count_one c s.data.toList
theorem alloc_strs (w : World) (p : List ByteArray) (hp : p ≠ []) (hl : p.length ≤ maxLen) (hs : ∀ s ∈ p, s.size ≤ maxLen) : StrsAt (w.alloc (.cells (p.map Value.string).toArray 9)) (some ⟨w.heap.size, 0, none⟩) p.length p := by
  refine ⟨Nat.le_refl _, hl, hs, .inr ⟨w.heap.size, 0, rfl, by simp, fun i s hi => ?_⟩⟩
  refine (Blk.new w (p.map Value.string).toArray 9).cellv _ ?_
  rw [Nat.zero_add, List.getElem?_toArray, List.getElem?_map, hi]
  rfl
theorem split_any (r : List UInt8) (w : World) (hv : Vars w) (hr : r.length ≤ 4000000000) :
    Calls Tryz.prog 47 #[.string (mkB r), .string ⟨#[47]⟩] w fun e w' => e = .returned (.slice (some ⟨w.heap.size, 0, none⟩) (pathP r).length (pathP r).length) ∧ StrsAt w' (some ⟨w.heap.size, 0, none⟩) (pathP r).length (pathP r) ∧ New w w' ∧ w.heap.size < w'.heap.size := by
  obtain ⟨m, hm⟩ := hv.max
  have hsz : (mkB r).size = r.length := size_list r
  have hP : Lib.splitB ⟨#[47]⟩ 0 (Lib.countB (mkB r) ⟨#[47]⟩) (mkB r) = pathP r := by
    rw [countB_one]
    have := splitB_pieces 47 0 (by omega) (mkB r)
    rw [mkB_data] at this ⊢
    exact this
  have hL : Lib.countB (mkB r) ⟨#[47]⟩ + 1 = (pathP r).length := by
    rw [countB_one, mkB_data]
    unfold pathP
    rw [List.length_map, pieces_len]
  refine (Tryz.strings_Split (mkB r) ⟨#[47]⟩ m w (by omega) hm (by decide)).mono ?_
  rintro e w' ⟨rfl, rfl⟩
  rw [hL, hP]
  refine ⟨rfl, alloc_strs w (pathP r) ?_ ?_ ?_, (Mod.refl _ _).alloc _, by simp⟩
  · intro q
    rw [q] at hL
    simp at hL
  · rw [← hL, countB_one, mkB_data]
    have := List.count_le_length (l := r) (a := 47)
    unfold maxLen
    omega
  · intro s hs
    unfold pathP at hs
    obtain ⟨x, hx, rfl⟩ := List.mem_map.1 hs
    have := piece_le [] (by simp) 47 r x hx
    have e : (mkB x).size = x.length := size_list x
    unfold maxLen
    omega
def linesB (s : List UInt8) : List ByteArray := (pieces [10] 10 s).map mkB
set_option maxHeartbeats 1000000 in
theorem splitAfter_any (s : List UInt8) (w : World) (hv : Vars w) (hr : s.length ≤ 4000000000) :
    Calls Tryz.prog 42 #[.string (mkB s), .string ⟨#[10]⟩] w fun e w' => ∃ a, e = .returned (.slice a (linesB s).length (linesB s).length) ∧ StrsAt w' a (linesB s).length (linesB s) ∧ New w w' := by
  obtain ⟨m, hm⟩ := hv.max
  have hsz : (mkB s).size = s.length := size_list s
  have hcl := List.count_le_length (l := s) (a := 10)
  have hcb : Lib.countB (mkB s) ⟨#[10]⟩ = s.count 10 := by rw [countB_one, mkB_data]
  have hP : Lib.splitB ⟨#[10]⟩ 1 (s.count 10) (mkB s) = linesB s := by
    have := splitB_pieces 10 1 (by omega) (mkB s)
    rw [mkB_data] at this
    exact this
  have hL : s.count 10 + 1 = (linesB s).length := by
    unfold linesB
    rw [List.length_map, pieces_len]
  have HG := hid (Tryz.strings_genSplit (mkB s) ⟨#[10]⟩ 1 (-1) (s.count 10 + 1) m w (by omega) hm (by decide) (by decide) (by decide) (by decide) (by rw [hcb, hsz, if_pos (by decide)]; omega))
  rw [show s.count 10 + 1 - 1 = s.count 10 from rfl, hP, hL] at HG
  have hcells : Lib.cellsOf (linesB s) (linesB s).length = ((linesB s).map Value.string).toArray := by simp [Lib.cellsOf]
  rw [hcells] at HG
  have hst := alloc_strs w (linesB s) (by intro q; rw [q] at hL; simp at hL) (by unfold maxLen; omega) (fun x hx => by
    unfold linesB at hx
    obtain ⟨y, hy, rfl⟩ := List.mem_map.1 hx
    have := piece_le [10] (by simp) 10 s y hy
    have e : (mkB y).size = y.length := size_list y
    unfold maxLen
    omega)
  have HST := hid hst
  obtain ⟨P, hPP⟩ : ∃ P, P = linesB s := ⟨_, rfl⟩
  rw [← hPP] at HG HST ⊢
  clear hm hsz hcl hcb hP hL hcells hst hPP hv
  go_enter Tryz.func42, Tryz.ntmps42
  go_wp2_with fail
  refine HG.out.mono ?_
  rintro e w1 ⟨rfl, rfl⟩
  go_wp2
  go_ret
  exact ⟨_, rfl, HST.out, (Mod.refl _ _).alloc _⟩
theorem cutS_any (s : List UInt8) (c : UInt8) (w : World) (hv : Vars w) (hr : s.length ≤ 4000000000) :
    Calls Tryz.prog 45 #[.string (mkB s), .string ⟨#[c]⟩] w fun e w' => e = .returned (.tuple #[.string (mkB (cutB c s).1), .string (mkB (cutB c s).2.1), .bool (cutB c s).2.2]) ∧ New w w' := by
  obtain ⟨m, hm⟩ := hv.max
  have hsz : (mkB s).size = s.length := size_list s
  refine (Tryz.strings_Cut (mkB s) ⟨#[c]⟩ m w (by omega) hm).mono ?_
  rintro e w' ⟨rfl, n, rfl⟩
  refine ⟨?_, Mod.drewN (Mod.refl _ _) n⟩
  have e : Lib.cut (mkB s).data.toList (⟨#[c]⟩ : ByteArray).data.toList = cutB c s := cut_one c s
  rw [e]
  rfl
end Go.Proofs.YtnccfikimmolgaaGreatDoor

namespace Go.Proofs.YtnccfikimmolgaaGreatDoor
set_option linter.unusedSimpArgs false
set_option linter.unusedVariables false
open Go.ChangeShapes Go.WideShapes Go.ChangeAt Go.RowKit Go.Deep

def tablesT : List (String × DataW Unit) := Rows.filesTextsRow.laid
theorem tablesT_plain (w : World) : laidMetH Tryz.prog tablesT w = laidMet Tryz.prog tablesT w := MakeChecks.laidMetH_plain _ _ _ (by kernel_rfl)
theorem syn_type : Tryz.prog.globalNamed "strconv.ErrSyntax" = some 1 ∧ (Tryz.prog.globals[1]?).map (·.type) = some 93 := ⟨by kernel_rfl, by kernel_rfl⟩
theorem rng_type : Tryz.prog.globalNamed "strconv.ErrRange" = some 2 ∧ (Tryz.prog.globals[2]?).map (·.type) = some 93 := ⟨by kernel_rfl, by kernel_rfl⟩
theorem laid_iface {P : Program} {n nm : String} {d : DataW Unit} {r : List (String × DataW Unit)} {W : World} {g : Nat} {ti : TypeId} {ms : Array (String × TypeId)} (h : laidMet P ((n, .iface nm d) :: r) W) (hg : P.globalNamed n = some g) (ht : (P.globals[g]?).map (·.type) = some ti) (hi : P.underlying ti = some (.interface ms)) :
    ∃ tp v, W.var? P n = some #[.iface tp v] := by
  obtain ⟨ps, ⟨g0, t0, cs0, f0, p0, q0, hg0, ht0, hv0, hd0, -, -⟩, -⟩ := h
  obtain rfl := Option.some.inj (hg.symm.trans hg0)
  obtain rfl := Option.some.inj (ht.symm.trans ht0)
  obtain ⟨f1, u, v, hc, -, -⟩ := iface_of_trod hi hd0
  refine ⟨u, v, ?_⟩
  rw [hv0]
  congr 1
  apply Array.toList_inj.1
  rw [hc]
theorem vars_of {W : World} (h : laidMetH Tryz.prog tablesT W) (hs : W.ShapedOpen Tryz.prog) : Vars W := by
  rw [tablesT_plain] at h
  have h2 := h.tail.tail
  have h4 := h2.tail.tail
  have h5 := h4.tail
  refine ⟨?_, ?_, ?_, ?_⟩
  · exact Lib.tabIs_of_head (t := 182) (e := 135) (n := 20) tab_global tab_type Tryz.underlying182 Tryz.underlying135 (by kernel_rfl) (by kernel_rfl) h2
  · exact laid_iface h5 syn_type.1 syn_type.2 Tryz.underlying93
  · exact laid_iface h4 rng_type.1 rng_type.2 Tryz.underlying93
  · exact cell_of_shapedOpen_int (g := 0) (t := 3) (zero := #[.int .i64 0]) hs (of_decide_eq_true (by kernel_rfl)) (by kernel_rfl) rfl (by kernel_rfl) (by kernel_rfl) Tryz.underlying3
theorem weightsAll_mem {H : Type} {P : Program} {e : TypeId} : ∀ {ds : List (DataW H)} {d : DataW H}, d ∈ ds → ∀ n ∈ d.weights P e, n ∈ DataW.weightsAll P e ds
  | x :: r, d, h, n, hn => by
    simp only [DataW.weightsAll, List.mem_append]
    rcases List.mem_cons.1 h with rfl | h
    · exact .inl hn
    · exact .inr (weightsAll_mem h n hn)
section
variable {H : Type} {enc : TypeId × Value → H} {w : World} {base : Nat} {spare : Nat → Bool} {held : Bool}
/-- A path opened, and its texts among what is weighed. -/
theorem open_pathW {fuel : Nat} {v : Value} {x : DataW H × List MemPlace} (h : DataW.trod enc Tryz.prog w base spare held fuel 49 [v] = some x) : ∃ a c p, v = .slice a p.length c ∧ StrsAt w a c p ∧ ∀ s ∈ p, s.size ∈ x.1.weights Tryz.prog 49 := by
  rcases open_strs Tryz.underlying49 Tryz.underlying9 (by kernel_rfl) h with ⟨hcs, -⟩ | ⟨a, len, cap, m, Sx, hcs, -, hl, hc, hm, hxx, hx⟩
  · simp at hcs
    subst hcs
    exact ⟨none, 0, [], rfl, ⟨by simp, by simp [maxLen], by simp, .inl rfl⟩, by simp⟩
  · simp at hcs
    subst hcs
    have hlm : len ≤ m := by rw [hm]; split <;> omega
    refine ⟨some a, cap, (List.range len).map Sx, by simp, ⟨by simpa using hl, hc, fun s hs => ?_, ?_⟩, fun s hs => ?_⟩
    · simp at hs
      obtain ⟨i, hi, rfl⟩ := hs
      exact (hx i (by omega)).2
    · by_cases hz : len = 0
      · exact .inl (by simp [hz])
      · have h0 := (hx 0 (by omega)).1
        obtain ⟨b, o, sp⟩ := a
        have hs : sp = none := cell_spot h0
        subst hs
        refine .inr ⟨b, o, rfl, World.block_lt_of_cell? _ _ h0, fun i s hi => ?_⟩
        simp only [List.getElem?_map, Option.map_eq_some_iff] at hi
        obtain ⟨j, hj, rfl⟩ := hi
        have hjl : j < len ∧ j = i := by
          have := List.getElem?_eq_some_iff.1 hj
          obtain ⟨hlt, he⟩ := this
          simp at hlt he
          omega
        obtain ⟨hjl, rfl⟩ := hjl
        have := (hx j (by omega)).1
        rw [add_none] at this
        exact this
    · obtain ⟨i, hi, rfl⟩ := List.mem_map.1 hs
      rw [hxx]
      simp only [DataW.weights, Tryz.underlying49, List.mem_cons, List.mem_append]
      refine .inr (.inl (weightsAll_mem (List.mem_map.2 ⟨i, hi, rfl⟩) _ ?_))
      have e : (Sx i).data.toList.length = (Sx i).size := by rw [Array.length_toList]; rfl
      simp only [DataW.weights, List.mem_singleton, e]
/-- A list of files opened, and its texts among what is weighed. -/
theorem open_filesW {fuel : Nat} {cs : List Value} {x : DataW H × List MemPlace} (h : DataW.trod enc Tryz.prog w base spare held fuel 22 cs = some x) : ∃ a c l, cs = [.slice a l.length c] ∧ FilesAt w a c l ∧ ∀ f ∈ l, ∀ s ∈ f.path, s.size ∈ x.1.weights Tryz.prog 22 := by
  rcases open_slice_fields Tryz.underlying22 Tryz.underlying51 (by kernel_rfl) (by kernel_rfl) h with ⟨hcs, _⟩ | ⟨a, len, cap, m, D, Pl, hcs, _, hl, hmx, hmm, hxx, hcell⟩
  · exact ⟨none, 0, [], by simpa using hcs, ⟨by simp, by simp [maxLen], .inl rfl⟩, by simp⟩
  · have hlm : len ≤ m := by rw [hmm]; split <;> omega
    have hc : ∀ i, i < len → ∃ f : FileV, ∃ pa pc, w.cell? (a.add (i * 3)) = some (.slice pa f.path.length pc) ∧ w.cell? (a.add (i * 3 + 1)) = some (.int .i64 f.len) ∧ w.cell? (a.add (i * 3 + 2)) = some (.bool f.pad) ∧ StrsAt w pa pc f.path ∧ (-9223372036854775808 ≤ f.len ∧ f.len ≤ 9223372036854775807) ∧ ∀ s ∈ f.path, s.size ∈ x.1.weights Tryz.prog 22 := by
      intro i hi
      obtain ⟨ys, n, hD, _, _, hfs⟩ := hcell i (by omega)
      obtain ⟨u0, y0, e0, z0, t0⟩ := hfs 0 _ rfl
      obtain ⟨u1, y1, e1, _, t1⟩ := hfs 1 _ rfl
      obtain ⟨u2, y2, e2, _, t2⟩ := hfs 2 _ rfl
      obtain ⟨pa, pc, p, rfl, hp, hw⟩ := open_pathW t0
      obtain ⟨x1, c1, -, wf⟩ := DataW.trod_int Tryz.underlying3 t1
      obtain ⟨x2, c2, -⟩ := DataW.trod_bool Tryz.underlying4 t2
      simp at c1 c2
      subst c1 c2
      refine ⟨⟨p, x1, x2⟩, pa, pc, e0, e1, e2, hp, wf_bounds wf, fun s hs => ?_⟩
      rw [hxx]
      simp only [DataW.weights, Tryz.underlying22, List.mem_cons, List.mem_append]
      refine .inr (.inl (weightsAll_mem (List.mem_map.2 ⟨i, List.mem_range.2 hi, rfl⟩) _ ?_))
      rw [hD]
      simp only [DataW.weights, Tryz.underlying51]
      refine DataW.weights_mem_each (j := 0) (t := 49) (d := y0.1) rfl ?_ _ (hw s hs)
      rw [List.getElem?_map, z0]
      rfl
    obtain ⟨L, hL, hp⟩ := list_of len hc
    subst hL
    refine ⟨some a, cap, L, hcs, ⟨hl, hmx, ?_⟩, fun f hf => ?_⟩
    · by_cases hz : L.length = 0
      · exact .inl (List.eq_nil_of_length_eq_zero hz)
      · obtain ⟨f, pa, pc, e0, -⟩ := hc 0 (by omega)
        have hs := cell_spot e0
        obtain ⟨b, o, sp⟩ := a
        have hs' : sp = none := hs
        subst hs'
        refine .inr ⟨b, o, rfl, World.block_lt_of_cell? _ _ e0, fun i f hf => ?_⟩
        obtain ⟨pa, pc, q0, q1, q2, q3, q4, -⟩ := hp i f hf
        rw [add_none] at q0 q1 q2
        exact ⟨pa, pc, q0, by simpa [Nat.add_assoc] using q1, by simpa [Nat.add_assoc] using q2, q3, q4⟩
    · obtain ⟨i, hi, rfl⟩ := List.mem_iff_getElem.1 hf
      obtain ⟨-, -, -, -, -, -, -, q⟩ := hp i _ (List.getElem?_eq_getElem hi)
      exact q
end
/-- Each text of a list that came in takes what the reach allows. -/
theorem small_of {H : Type} {ts : List TypeId} {ds : List (DataW H)} {j : Nat} {d : DataW H} {l : List FileV} (h : (DataW.weightsEach Tryz.prog ts ds).all (· ≤ reachBytes) = true) (ht : ts[j]? = some 22) (hd : ds[j]? = some d) (hm : ∀ f ∈ l, ∀ s ∈ f.path, s.size ∈ d.weights Tryz.prog 22) : ∀ f ∈ l, ∀ s ∈ f.path, s.size ≤ 140737488355328 := fun f hf s hs => by
  have := List.all_eq_true.1 h _ (DataW.weights_mem_each ht hd _ (hm f hf s hs))
  have h2 : s.size ≤ reachBytes := by simpa using this
  have h3 := reachBytes_lt
  have h4 : (2 : Nat) ^ 47 = 140737488355328 := by decide
  omega
end Go.Proofs.YtnccfikimmolgaaGreatDoor
