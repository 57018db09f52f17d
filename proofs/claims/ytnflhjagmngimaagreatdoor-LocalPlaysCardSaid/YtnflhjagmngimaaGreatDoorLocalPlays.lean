/-
  LocalPlays returns true, for every input, its arguments as they were; the tables and errors of the library tied to the program's text. No condition but the row's own ('laid').
-/
import Derived.Test.YtnflhjagmngimaaGreatDoorM46
import Derived.Test.YtnflhjagmngimaaGreatDoorM47
import Derived.Test.YtnflhjagmngimaaGreatDoorM20
import Derived.Test.YtnflhjagmngimaaGreatDoorTie
import Derived.Test.YtnflhjagmngimaaGreatDoorCards
import Derived.SevenTiedAt
import Derived.Deep.Slices
namespace Go.Proofs.YtnflhjagmngimaaGreatDoor.localPlays
set_option linter.unusedSimpArgs false
set_option linter.unusedVariables false
open Go.ChangeShapes Go.WideShapes Go.ChangeAt Go.RowKit Go.Deep

theorem syn_type : Tryz.prog.globalNamed "strconv.ErrSyntax" = some 1 ∧ (Tryz.prog.globals[1]?).map (·.type) = some 78 := ⟨by kernel_rfl, by kernel_rfl⟩
theorem rng_type : Tryz.prog.globalNamed "strconv.ErrRange" = some 2 ∧ (Tryz.prog.globals[2]?).map (·.type) = some 78 := ⟨by kernel_rfl, by kernel_rfl⟩
theorem vars_ofL {x y z : String × DataW Unit} {r : List (String × DataW Unit)} {W : World} (h : laidMet Tryz.prog (x :: y :: ("internal/strconv.uint64pow10", Rows.laid_internal_strconv_uint64pow10) :: z :: ("strconv.ErrRange", Rows.laid_strconv_ErrRange) :: ("strconv.ErrSyntax", Rows.laid_strconv_ErrSyntax) :: r) W) (hs : W.ShapedOpen Tryz.prog) : VarsL W := by
  have h2 := h.tail.tail
  have h4 := h2.tail.tail
  have h5 := h4.tail
  have hm : ∃ m, W.cell? ⟨0, 0, none⟩ = some (.int .i64 m) :=
    cell_of_shapedOpen_int (g := 0) (t := 3) (zero := #[.int .i64 0]) hs (of_decide_eq_true (by kernel_rfl)) (by kernel_rfl) rfl (by kernel_rfl) (by kernel_rfl) Tryz.underlying3
  refine ⟨tab_head h2, ?_, ?_, hm, ?_⟩
  · exact laid_iface h5 syn_type.1 syn_type.2 Tryz.underlying78
  · exact laid_iface h4 rng_type.1 rng_type.2 Tryz.underlying78
  · obtain ⟨m, hm⟩ := hm
    exact World.block_lt_of_cell? _ _ hm
section
variable {H : Type} {enc : TypeId × Value → H} {w : World} {base : Nat} {spare : Nat → Bool} {held : Bool}
theorem len11 {cs : List Value} (h : cs.length = 11) : ∃ a0 a1 a2 a3 a4 a5 a6 a7 a8 a9 a10, cs = [a0, a1, a2, a3, a4, a5, a6, a7, a8, a9, a10] := by
  match cs, h with
  | [a0, a1, a2, a3, a4, a5, a6, a7, a8, a9, a10], _ => exact ⟨a0, a1, a2, a3, a4, a5, a6, a7, a8, a9, a10, rfl⟩
theorem c_int : Tryz.prog.cellsOf 3 = 1 := by kernel_rfl
theorem c_str : Tryz.prog.cellsOf 9 = 1 := by kernel_rfl
theorem c_bool : Tryz.prog.cellsOf 4 = 1 := by kernel_rfl
theorem c_strs : Tryz.prog.cellsOf 22 = 1 := by kernel_rfl
theorem c_addr : Tryz.prog.cellsOf 40 = 3 := by kernel_rfl
theorem c_called : Tryz.prog.cellsOf 34 = 3 := by kernel_rfl
theorem at_of {α : Type} {xs : List α} {n i : Nat} (h : xs.length = n) (hi : i < n) : ∃ y, xs[i]? = some y := ⟨_, List.getElem?_eq_getElem (by omega)⟩
set_option maxRecDepth 100000 in
theorem open_adr3 {fuel : Nat} {a b c : Value} {x : DataW H × List MemPlace} (h : DataW.trod enc Tryz.prog w base spare held fuel 40 [a, b, c] = some x) : ∃ f : AdrV, a = .int .i64 f.fam ∧ b = .string f.ip ∧ c = .int .i64 f.port ∧ f.ip.size ≤ maxLen := by
  obtain ⟨xs, n, rfl, -, -, hxs, hf⟩ := DataW.trod_struct Tryz.underlying40 h
  have t0 : DataW.trod enc Tryz.prog w base spare held n 3 (([a, b, c].drop 0).take (Tryz.prog.cellsOf 3)) = xs[0]? := hf 0 _ rfl
  have t1 : DataW.trod enc Tryz.prog w base spare held n 9 (([a, b, c].drop 1).take (Tryz.prog.cellsOf 9)) = xs[1]? := hf 1 _ rfl
  have t2 : DataW.trod enc Tryz.prog w base spare held n 3 (([a, b, c].drop 2).take (Tryz.prog.cellsOf 3)) = xs[2]? := hf 2 _ rfl
  obtain ⟨y0, e0⟩ := at_of hxs (i := 0) (by decide); obtain ⟨y1, e1⟩ := at_of hxs (i := 1) (by decide); obtain ⟨y2, e2⟩ := at_of hxs (i := 2) (by decide)
  rw [e0] at t0; rw [e1] at t1; rw [e2] at t2
  simp only [c_int, c_str, List.drop_succ_cons, List.drop_zero, List.take_succ_cons, List.take_zero] at t0 t1 t2
  obtain ⟨x0, c0, -, -⟩ := DataW.trod_int Tryz.underlying3 t0
  obtain ⟨s, c1, -, hs⟩ := DataW.trod_string Tryz.underlying9 t1
  obtain ⟨x2, c2, -, -⟩ := DataW.trod_int Tryz.underlying3 t2
  simp at c0 c1 c2
  exact ⟨⟨x0, s, x2⟩, c0, c1, c2, hs⟩
set_option maxRecDepth 100000 in
theorem open_msg3 {fuel : Nat} {a b c : Value} {x : DataW H × List MemPlace} (h : DataW.trod enc Tryz.prog w base (fun _ => true) held fuel 34 [a, b, c] = some x) : ∃ (m : MsgV) (na : Option Addr) (nc : Nat), a = .int .i64 m.port ∧ b = .slice na m.names.length nc ∧ c = .string m.cookie ∧ MsgAt w na nc m := by
  obtain ⟨xs, n, rfl, -, -, hxs, hf⟩ := DataW.trod_struct Tryz.underlying34 h
  have t0 : DataW.trod enc Tryz.prog w base (fun _ => true) held n 3 (([a, b, c].drop 0).take (Tryz.prog.cellsOf 3)) = xs[0]? := hf 0 _ rfl
  have t1 : DataW.trod enc Tryz.prog w base (fun _ => true) held n 22 (([a, b, c].drop 1).take (Tryz.prog.cellsOf 22)) = xs[1]? := hf 1 _ rfl
  have t2 : DataW.trod enc Tryz.prog w base (fun _ => true) held n 9 (([a, b, c].drop 2).take (Tryz.prog.cellsOf 9)) = xs[2]? := hf 2 _ rfl
  obtain ⟨y0, e0⟩ := at_of hxs (i := 0) (by decide); obtain ⟨y1, e1⟩ := at_of hxs (i := 1) (by decide); obtain ⟨y2, e2⟩ := at_of hxs (i := 2) (by decide)
  rw [e0] at t0; rw [e1] at t1; rw [e2] at t2
  simp only [c_int, c_str, c_strs, List.drop_succ_cons, List.drop_zero, List.take_succ_cons, List.take_zero] at t0 t1 t2
  obtain ⟨x0, c0, -, w0⟩ := DataW.trod_int Tryz.underlying3 t0
  obtain ⟨na, nc, l, c1, hst, -⟩ := open_pathW t1
  obtain ⟨s, c2, -, hs⟩ := DataW.trod_string Tryz.underlying9 t2
  simp at c0 c2
  exact ⟨⟨x0, l, s⟩, na, nc, c0, c1, c2, ⟨wf_bounds w0, hst, hs⟩⟩
set_option maxRecDepth 100000 in
theorem open_act {fuel : Nat} {cs : List Value} {x : DataW H × List MemPlace} (h : DataW.trod enc Tryz.prog w base (fun _ => true) held fuel 53 cs = some x) : ∃ f : ActK, cs = actCells f ∧ f.Ok w := by
  obtain ⟨xs, n, rfl, -, hlen, hxs, hf⟩ := DataW.trod_struct Tryz.underlying53 h
  obtain ⟨a0, a1, a2, a3, a4, a5, a6, a7, a8, a9, a10, rfl⟩ := len11 (hlen.trans (by kernel_rfl))
  have t0 : DataW.trod enc Tryz.prog w base (fun _ => true) held n 3 (([a0, a1, a2, a3, a4, a5, a6, a7, a8, a9, a10].drop 0).take (Tryz.prog.cellsOf 3)) = xs[0]? := hf 0 _ rfl
  have t1 : DataW.trod enc Tryz.prog w base (fun _ => true) held n 3 (([a0, a1, a2, a3, a4, a5, a6, a7, a8, a9, a10].drop 1).take (Tryz.prog.cellsOf 3)) = xs[1]? := hf 1 _ rfl
  have t2 : DataW.trod enc Tryz.prog w base (fun _ => true) held n 9 (([a0, a1, a2, a3, a4, a5, a6, a7, a8, a9, a10].drop 2).take (Tryz.prog.cellsOf 9)) = xs[2]? := hf 2 _ rfl
  have t3 : DataW.trod enc Tryz.prog w base (fun _ => true) held n 9 (([a0, a1, a2, a3, a4, a5, a6, a7, a8, a9, a10].drop 3).take (Tryz.prog.cellsOf 9)) = xs[3]? := hf 3 _ rfl
  have t4 : DataW.trod enc Tryz.prog w base (fun _ => true) held n 40 (([a0, a1, a2, a3, a4, a5, a6, a7, a8, a9, a10].drop 4).take (Tryz.prog.cellsOf 40)) = xs[4]? := hf 4 _ rfl
  have t5 : DataW.trod enc Tryz.prog w base (fun _ => true) held n 34 (([a0, a1, a2, a3, a4, a5, a6, a7, a8, a9, a10].drop 7).take (Tryz.prog.cellsOf 34)) = xs[5]? := hf 5 _ rfl
  have t6 : DataW.trod enc Tryz.prog w base (fun _ => true) held n 4 (([a0, a1, a2, a3, a4, a5, a6, a7, a8, a9, a10].drop 10).take (Tryz.prog.cellsOf 4)) = xs[6]? := hf 6 _ rfl
  obtain ⟨y0, e0⟩ := at_of hxs (i := 0) (by decide); obtain ⟨y1, e1⟩ := at_of hxs (i := 1) (by decide); obtain ⟨y2, e2⟩ := at_of hxs (i := 2) (by decide); obtain ⟨y3, e3⟩ := at_of hxs (i := 3) (by decide)
  obtain ⟨y4, e4⟩ := at_of hxs (i := 4) (by decide); obtain ⟨y5, e5⟩ := at_of hxs (i := 5) (by decide); obtain ⟨y6, e6⟩ := at_of hxs (i := 6) (by decide)
  rw [e0] at t0; rw [e1] at t1; rw [e2] at t2; rw [e3] at t3; rw [e4] at t4; rw [e5] at t5; rw [e6] at t6
  simp only [c_int, c_str, c_bool, c_addr, c_called, List.drop_succ_cons, List.drop_zero, List.take_succ_cons, List.take_zero] at t0 t1 t2 t3 t4 t5 t6
  obtain ⟨x0, c0, -, -⟩ := DataW.trod_int Tryz.underlying3 t0
  obtain ⟨x1, c1, -, -⟩ := DataW.trod_int Tryz.underlying3 t1
  obtain ⟨x2, c2, -, z2⟩ := DataW.trod_string Tryz.underlying9 t2
  obtain ⟨x3, c3, -, z3⟩ := DataW.trod_string Tryz.underlying9 t3
  obtain ⟨fr, f1, f2, f3, z4⟩ := open_adr3 t4
  obtain ⟨m, na, nc, m1, m2, m3, z5⟩ := open_msg3 t5
  obtain ⟨x6, c6, -⟩ := DataW.trod_bool Tryz.underlying4 t6
  simp at c0 c1 c2 c3 c6
  subst c0 c1 c2 c3 f1 f2 f3 m1 m2 m3 c6
  exact ⟨⟨x0, x1, x2, x3, fr, m, na, nc, x6⟩, rfl, ⟨z2, z3, z4, z5⟩⟩
set_option maxRecDepth 100000 in
theorem open_actsL {fuel : Nat} {cs : List Value} {x : DataW H × List MemPlace} (h : DataW.trod enc Tryz.prog w base (fun _ => true) held fuel 47 cs = some x) : ∃ a c l, cs = [.slice a l.length c] ∧ ActsL w a c l := by
  have ce : Tryz.prog.cellsOf 53 = 11 := by kernel_rfl
  rcases open_slice Tryz.underlying47 h with ⟨hcs, -⟩ | ⟨a, len, cap, m, n, D, Pl, hcs, -, hl, hc, hm, -, hx⟩
  · exact ⟨none, 0, [], hcs, ActsL.nil w⟩
  · have hlm : len ≤ m := by rw [hm]; split <;> omega
    have hel : ∀ i, i < len → ∃ f : ActK, (∀ (j : Nat) v, (actCells f)[j]? = some v → w.cell? (a.add (i * 11 + j)) = some v) ∧ f.Ok w := by
      intro i hi
      obtain ⟨cs', h1, h2⟩ := hx i (by omega)
      obtain ⟨f, rfl, ho⟩ := open_act h2
      rw [ce] at h1
      obtain ⟨-, h3, h4⟩ := World.cells?_some h1
      refine ⟨f, fun j v hj => ?_, ho⟩
      have hjl : j < 11 := by rw [← h3]; exact (List.getElem?_eq_some_iff.1 hj).1
      rw [← hj, ← h4 j hjl]
      rw [Go.Addr.add_add]
    obtain ⟨L, hL, hp⟩ := list_of len hel
    subst hL
    refine ⟨some a, cap, L, hcs, hl, hc, ?_⟩
    by_cases hz : L.length = 0
    · exact .inl (List.eq_nil_of_length_eq_zero hz)
    · obtain ⟨f, e0, -⟩ := hel 0 (by omega)
      have e0 := e0 0 _ rfl
      have hs := cell_spot e0
      obtain ⟨b, o, sp⟩ := a
      have hs' : sp = none := hs
      subst hs'
      refine .inr ⟨b, o, rfl, World.block_lt_of_cell? _ _ e0, fun i f hf => ?_⟩
      obtain ⟨q0, q1⟩ := hp i f hf
      refine ⟨fun j v hj => ?_, q1⟩
      have := q0 j v hj
      rw [add_none] at this
      simpa [Nat.add_assoc] using this
end
set_option maxRecDepth 100000 in
theorem lifted (os : Os) (started : os.Started) (H : Type) (enc : TypeId × Value → H) :
    ReturnsInHanded {} Tryz.checked os 5 .any (fun w args => (Rows.localPlaysSpec.pre enc Tryz.prog Tryz.f5 [] false w args ∧ laidMetH Tryz.prog Rows.localPlaysRow.laid w) ∧ sizedMet enc Tryz.prog Tryz.f5 (OpenSpec.ofChange Rows.localPlaysSpec) false w args)
      (Rows.localPlaysSpec.post enc Tryz.prog Tryz.f5 false true false false) := by
  refine returnsInHanded_full (C := Tryz.checked) (X := fun w _ => laidMetH Tryz.prog Rows.localPlaysRow.laid w) (fun _ _ _ hh h => h.of_heap hh) ownT started (by kernel_rfl) Tryz.func5
    (ChangeSpec.witness_shaped (enc := enc) (C := Tryz.checked) (os := os) (X := fun w _ => laidMetH Tryz.prog Rows.localPlaysRow.laid w) false (World.laidAll Tryz.prog os Rows.localPlaysRow.laid) #[.string ⟨#[]⟩, .int .i64 0, .int .i64 0, .slice none 0 0] 8 (World.laidAll_os _ _ _) (World.shaped_of_ZipB (by kernel_rfl) (by kernel_rfl)) (by kernel_rfl) (by kernel_rfl) (by kernel_rfl) (by rw [MakeChecks.laidMetH_plain _ _ _ (by kernel_rfl)]; exact laidMet_laidAll _ (by kernel_rfl) (by kernel_rfl))) ?_
  intro W base args ds gs before hval0 hW _ hZ0 hL hsh _
  have hval : ∀ (j : Nat) t v, Tryz.f5.params[j]? = some t → args[j]? = some v → Value.okWide Tryz.prog W .any base t v := hval0
  have hZ : (DataW.weightsEach Tryz.prog (Tryz.f5.params.toList ++ Rows.localPlaysSpec.plain.varTypes Tryz.prog) (ds ++ gs)).all (· ≤ reachBytes) = true := hZ0
  have hW' := hW
  obtain ⟨p, q, hA0, hV, rfl, hfz, hnd⟩ := hW
  have hA : DataW.TrodAll enc Tryz.prog W 0 (fun _ => true) true Tryz.f5.params.toList args.toList ds p := hA0
  rw [Tryz.params5] at hA hval hZ
  obtain ⟨v0, vs0, d0, ds0, p0, q0, hargs, rfl, rfl, h0, r0⟩ := trodAll_cons hA
  obtain ⟨v1, vs1, d1, ds1, p1, q1, rfl, rfl, rfl, h1, r1⟩ := trodAll_cons r0
  obtain ⟨v2, vs2, d2, ds2, p2, q2, rfl, rfl, rfl, h2, r2⟩ := trodAll_cons r1
  obtain ⟨v3, vs3, d3, ds3, p3, q3, rfl, rfl, rfl, h3, r3⟩ := trodAll_cons r2
  obtain ⟨rfl, rfl, rfl⟩ := trodAll_nil r3
  obtain rfl : args = #[v0, v1, v2, v3] := by cases args; simp_all
  obtain ⟨rfl, rfl⟩ := trodVars_none hV
  have k0 := h0
  have k1 := h1
  have k2 := h2
  have k3 := h3
  have lt0 : ∀ x ∈ p0, x.block < W.heap.size := by obtain ⟨m, hm⟩ := k0; exact DataW.trod_lt m _ _ _ hm
  have lt1 : ∀ x ∈ p1, x.block < W.heap.size := by obtain ⟨m, hm⟩ := k1; exact DataW.trod_lt m _ _ _ hm
  have lt2 : ∀ x ∈ p2, x.block < W.heap.size := by obtain ⟨m, hm⟩ := k2; exact DataW.trod_lt m _ _ _ hm
  have lt3 : ∀ x ∈ p3, x.block < W.heap.size := by obtain ⟨m, hm⟩ := k3; exact DataW.trod_lt m _ _ _ hm
  obtain ⟨seed, rfl, -, -, h_seed⟩ := Go.ChangeMaps.open_string Tryz.underlying9 (hval 0 9 v0 rfl rfl) h0
  obtain ⟨port, rfl, -, -, w_port⟩ := open_int Tryz.underlying3 (hval 1 3 v1 rfl rfl) h1
  obtain ⟨lo_port, hi_port⟩ := wf_bounds w_port
  obtain ⟨every, rfl, -, -, w_every⟩ := open_int Tryz.underlying3 (hval 2 3 v2 rfl rfl) h2
  obtain ⟨lo_every, hi_every⟩ := wf_bounds w_every
  obtain ⟨a_l, len_l, c_l, rfl⟩ := okWide_slice Tryz.underlying47 (hval 3 47 v3 rfl rfl) 
  obtain ⟨l, hlen_l, h_l⟩ : ∃ l, l.length = len_l ∧ ActsL W a_l c_l l := by
    obtain ⟨fuel, hf⟩ := h3
    obtain ⟨a', c', l, hcs, hfa⟩ := open_actsL hf
    simp [Value.cells] at hcs
    obtain ⟨rfl, rfl, rfl⟩ := hcs
    exact ⟨l, rfl, hfa⟩
  subst hlen_l
  clear hA0 hval0 hZ0
  refine (plays_any seed port every a_l c_l l W h_seed h_l (fun W' n => (vars_ofL (by rw [MakeChecks.laidMetH_plain _ _ _ (by kernel_rfl)] at hL; exact hL) hsh).new n)).mono fun e W' ⟨he, hn⟩ => ?_
  subst he
  have bel : Below W.heap.size W W' := hn.below _ (Nat.le_refl _) (fun _ _ x => x)
  exact ⟨_, rfl, _, _, _, [], _, [], hW', trodAll_mk1 (shut_bool Tryz.underlying4 _), (trodAll_cons_mk (Below.trod laidOutT (by kernel_rfl) (of_decide_eq_true (by kernel_rfl)) k0 bel lt0) (trodAll_cons_mk (Below.trod laidOutT (by kernel_rfl) (of_decide_eq_true (by kernel_rfl)) k1 bel lt1) (trodAll_cons_mk (Below.trod laidOutT (by kernel_rfl) (of_decide_eq_true (by kernel_rfl)) k2 bel lt2) (trodAll_cons_mk (Below.trod laidOutT (by kernel_rfl) (of_decide_eq_true (by kernel_rfl)) k3 bel lt3) trodAll_mk0)))), rfl, bel.frame _, fun h => by cases h⟩

theorem over : Rows.LocalPlaysSaid :=
  OpenClaim.holds_of_wide 5 Tryz.f5 rfl rfl rfl rfl rfl rfl rfl ⟨rfl, rfl, rfl, rfl, rfl⟩ rfl rfl rfl rfl rfl (by kernel_rfl) Tryz.func5 (by kernel_rfl)
    (of_decide_eq_true (by kernel_rfl)) (by unfold Func.isWrapper; first | (rw [if_pos (by decide +kernel)]; kernel_rfl) | (rw [if_neg (by decide +kernel)]; exact ⟨rfl, rfl⟩))
    (fun os started H enc _ => lifted os started H enc)

theorem proved : Rows.LocalPlaysCardSaid :=
  Claim7.holds_tied_plain_at .later [] [.data, .data, .data, .data, .sentinel, .sentinel, .pinned] true Rows.localPlaysCard.stood.harness true
    over (fun _ h => by cases h) (by kernel_rfl) (fun _ h => by cases h) localPlays_row_tie rfl ⟨rfl, rfl⟩ (by kernel_rfl) rfl
    (fun f fn hf hfn => by
      obtain rfl : f = 5 := Option.some.inj ((show Tryz.prog.funcNamed "covey/coveylaw23.LocalPlays" = some 5 by kernel_rfl).symm.trans hf) |>.symm
      obtain rfl : fn = Tryz.f5 := (Option.some.inj (Tryz.func5.symm.trans hfn)).symm
      exact ⟨by kernel_rfl, fun j t ht => by
        rw [Tryz.params5] at ht
        have hm : t ∈ [9, 3, 3, 47] := by simpa using Array.mem_of_getElem? ht
        have hall : ([9, 3, 3, 47].all fun u => !Tryz.prog.wantsStandIn u) = true := by kernel_rfl
        exact (show Tryz.prog.wantsStandIn t = false by simpa using List.all_eq_true.1 hall t hm)⟩)
    (by kernel_rfl)
#print axioms proved
end Go.Proofs.YtnflhjagmngimaaGreatDoor.localPlays
