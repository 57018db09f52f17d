/-
  LocalHears returns true, for every input, its arguments as they were; the tables and errors of the library tied to the program's text. No condition but the row's own ('laid').
-/
import Derived.Test.YtnflhjagmngimaaGreatDoorM39
import Derived.Test.YtnflhjagmngimaaGreatDoorM40
import Derived.Test.YtnflhjagmngimaaGreatDoorM17
import Derived.Test.YtnflhjagmngimaaGreatDoorTie
import Derived.Test.YtnflhjagmngimaaGreatDoorCards
import Derived.SevenTiedAt
namespace Go.Proofs.YtnflhjagmngimaaGreatDoor.localHears
set_option linter.unusedSimpArgs false
set_option linter.unusedVariables false
open Go.ChangeShapes Go.WideShapes Go.ChangeAt Go.RowKit Go.Deep

theorem syn_type : Tryz.prog.globalNamed "strconv.ErrSyntax" = some 1 ∧ (Tryz.prog.globals[1]?).map (·.type) = some 78 := ⟨by kernel_rfl, by kernel_rfl⟩
theorem rng_type : Tryz.prog.globalNamed "strconv.ErrRange" = some 2 ∧ (Tryz.prog.globals[2]?).map (·.type) = some 78 := ⟨by kernel_rfl, by kernel_rfl⟩
theorem vars_ofL {x y z : String × DataW Unit} {r : List (String × DataW Unit)} {W : World} (h : laidMet Tryz.prog (x :: y :: ("internal/strconv.uint64pow10", Rows.laid_internal_strconv_uint64pow10) :: z :: ("strconv.ErrRange", Rows.laid_strconv_ErrRange) :: ("strconv.ErrSyntax", Rows.laid_strconv_ErrSyntax) :: r) W) (hs : W.ShapedOpen Tryz.prog) : VarsL W := by
  have h2 := h.tail.tail
  have h4 := h2.tail.tail
  have h5 := h4.tail
  have hm : ∃ m, W.cell? ⟨0, 0, none⟩ = some (.int .i64 m) :=
    cell_of_shapedOpen_int (g := 0) (t := 3) (zero := #[.int .i64 0]) hs (of_decide_eq_true (by kernel_rfl)) (by kernel_rfl) rfl (by kernel_rfl) (by kernel_rfl) Tryz.underlying3
  refine ⟨tab_head h2, ?_, ?_, hm, ?_⟩
  · exact laid_iface h5 syn_type.1 syn_type.2 Tryz.underlying78
  · exact laid_iface h4 rng_type.1 rng_type.2 Tryz.underlying78
  · obtain ⟨m, hm⟩ := hm
    exact World.block_lt_of_cell? _ _ hm
section
variable {H : Type} {enc : TypeId × Value → H} {w : World} {base : Nat} {spare : Nat → Bool} {held : Bool}
set_option maxRecDepth 100000 in
theorem open_addrX {r : Reach} {b0 : Nat} {v : Value} {d : DataW H} {p : List MemPlace} (hv : Value.okWide Tryz.prog w r b0 40 v) (h : DataW.Trod enc Tryz.prog w base spare held 40 v d p) :
    ∃ (x0 : Int) (x1 : ByteArray) (x2 : Int), v = .agg #[.int .i64 x0, .string x1, .int .i64 x2] ∧ x1.size ≤ maxLen := by
  obtain ⟨cs, xs, n, rfl, hsz, -, hf⟩ := open_aggN Tryz.underlying40 (by kernel_rfl) (by kernel_rfl) hv h
  obtain ⟨u0, y0, e0, -, t0⟩ := hf 0 _ rfl
  obtain ⟨u1, y1, e1, -, t1⟩ := hf 1 _ rfl
  obtain ⟨u2, y2, e2, -, t2⟩ := hf 2 _ rfl
  obtain ⟨x0, c0, -, -⟩ := DataW.trod_int Tryz.underlying3 t0
  obtain ⟨s, c1, -, hs⟩ := DataW.trod_string Tryz.underlying9 t1
  obtain ⟨x2, c2, -, -⟩ := DataW.trod_int Tryz.underlying3 t2
  simp at c0 c1 c2
  subst c0 c1 c2
  refine ⟨x0, s, x2, ?_, hs⟩
  obtain ⟨q⟩ := cs
  match q, hsz with
  | [a, b, c], _ =>
    simp at e0 e1 e2
    rw [e0, e1, e2]
end
set_option maxRecDepth 100000 in
theorem lifted (os : Os) (started : os.Started) (H : Type) (enc : TypeId × Value → H) :
    ReturnsInHanded {} Tryz.checked os 4 .any (fun w args => (Rows.localHearsSpec.pre enc Tryz.prog Tryz.f4 [] false w args ∧ laidMetH Tryz.prog Rows.localHearsRow.laid w) ∧ sizedMet enc Tryz.prog Tryz.f4 (OpenSpec.ofChange Rows.localHearsSpec) false w args)
      (Rows.localHearsSpec.post enc Tryz.prog Tryz.f4 false true false false) := by
  refine returnsInHanded_full (C := Tryz.checked) (X := fun w _ => laidMetH Tryz.prog Rows.localHearsRow.laid w) (fun _ _ _ hh h => h.of_heap hh) ownT started (by kernel_rfl) Tryz.func4
    (ChangeSpec.witness_shaped (enc := enc) (C := Tryz.checked) (os := os) (X := fun w _ => laidMetH Tryz.prog Rows.localHearsRow.laid w) false (World.laidAll Tryz.prog os Rows.localHearsRow.laid) #[.string ⟨#[]⟩, .string ⟨#[]⟩, .slice none 0 0, .slice none 0 0, .agg #[.int .i64 0, .string ⟨#[]⟩, .int .i64 0]] 8 (World.laidAll_os _ _ _) (World.shaped_of_ZipB (by kernel_rfl) (by kernel_rfl)) (by kernel_rfl) (by kernel_rfl) (by kernel_rfl) (by rw [MakeChecks.laidMetH_plain _ _ _ (by kernel_rfl)]; exact laidMet_laidAll _ (by kernel_rfl) (by kernel_rfl))) ?_
  intro W base args ds gs before hval0 hW _ hZ0 hL hsh _
  have hval : ∀ (j : Nat) t v, Tryz.f4.params[j]? = some t → args[j]? = some v → Value.okWide Tryz.prog W .any base t v := hval0
  have hZ : (DataW.weightsEach Tryz.prog (Tryz.f4.params.toList ++ Rows.localHearsSpec.plain.varTypes Tryz.prog) (ds ++ gs)).all (· ≤ reachBytes) = true := hZ0
  have hW' := hW
  obtain ⟨p, q, hA0, hV, rfl, hfz, hnd⟩ := hW
  have hA : DataW.TrodAll enc Tryz.prog W 0 (fun _ => true) true Tryz.f4.params.toList args.toList ds p := hA0
  rw [Tryz.params4] at hA hval hZ
  obtain ⟨v0, vs0, d0, ds0, p0, q0, hargs, rfl, rfl, h0, r0⟩ := trodAll_cons hA
  obtain ⟨v1, vs1, d1, ds1, p1, q1, rfl, rfl, rfl, h1, r1⟩ := trodAll_cons r0
  obtain ⟨v2, vs2, d2, ds2, p2, q2, rfl, rfl, rfl, h2, r2⟩ := trodAll_cons r1
  obtain ⟨v3, vs3, d3, ds3, p3, q3, rfl, rfl, rfl, h3, r3⟩ := trodAll_cons r2
  obtain ⟨v4, vs4, d4, ds4, p4, q4, rfl, rfl, rfl, h4, r4⟩ := trodAll_cons r3
  obtain ⟨rfl, rfl, rfl⟩ := trodAll_nil r4
  obtain rfl : args = #[v0, v1, v2, v3, v4] := by cases args; simp_all
  obtain ⟨rfl, rfl⟩ := trodVars_none hV
  have k0 := h0
  have k1 := h1
  have k2 := h2
  have k3 := h3
  have k4 := h4
  have lt0 : ∀ x ∈ p0, x.block < W.heap.size := by obtain ⟨m, hm⟩ := k0; exact DataW.trod_lt m _ _ _ hm
  have lt1 : ∀ x ∈ p1, x.block < W.heap.size := by obtain ⟨m, hm⟩ := k1; exact DataW.trod_lt m _ _ _ hm
  have lt2 : ∀ x ∈ p2, x.block < W.heap.size := by obtain ⟨m, hm⟩ := k2; exact DataW.trod_lt m _ _ _ hm
  have lt3 : ∀ x ∈ p3, x.block < W.heap.size := by obtain ⟨m, hm⟩ := k3; exact DataW.trod_lt m _ _ _ hm
  have lt4 : ∀ x ∈ p4, x.block < W.heap.size := by obtain ⟨m, hm⟩ := k4; exact DataW.trod_lt m _ _ _ hm
  obtain ⟨seedA, rfl, -, -, h_seedA⟩ := Go.ChangeMaps.open_string Tryz.underlying9 (hval 0 9 v0 rfl rfl) h0
  obtain ⟨seedB, rfl, -, -, h_seedB⟩ := Go.ChangeMaps.open_string Tryz.underlying9 (hval 1 9 v1 rfl rfl) h1
  obtain ⟨a_xs, len_xs, c_xs, rfl⟩ := okWide_slice Tryz.underlying22 (hval 2 22 v2 rfl rfl)
  obtain ⟨xs, hlen_xs, h_xs⟩ : ∃ xs, xs.length = len_xs ∧ StrsAt W a_xs c_xs xs := by
    obtain ⟨fuel, hf⟩ := h2
    obtain ⟨a', c', l, hcs, hfa, -⟩ := open_pathW (v := .slice a_xs len_xs c_xs) hf
    cases hcs
    exact ⟨l, rfl, hfa⟩
  subst hlen_xs
  obtain ⟨a_ys, len_ys, c_ys, rfl⟩ := okWide_slice Tryz.underlying22 (hval 3 22 v3 rfl rfl)
  obtain ⟨ys, hlen_ys, h_ys⟩ : ∃ ys, ys.length = len_ys ∧ StrsAt W a_ys c_ys ys := by
    obtain ⟨fuel, hf⟩ := h3
    obtain ⟨a', c', l, hcs, hfa, -⟩ := open_pathW (v := .slice a_ys len_ys c_ys) hf
    cases hcs
    exact ⟨l, rfl, hfa⟩
  subst hlen_ys
  obtain ⟨fr0, fr1, fr2, rfl, b_fr1⟩ := open_addrX (hval 4 40 v4 rfl rfl) h4
  clear hA0 hval0 hZ0
  refine (hears_any seedA seedB a_xs a_ys c_xs c_ys xs ys ⟨fr0, fr1, fr2⟩ W h_seedA h_seedB h_xs h_ys b_fr1 (vars_ofL (by rw [MakeChecks.laidMetH_plain _ _ _ (by kernel_rfl)] at hL; exact hL) hsh)).mono fun e W' ⟨he, hn⟩ => ?_
  subst he
  have bel : Below W.heap.size W W' := hn.below _ (Nat.le_refl _) (fun _ _ x => x)
  exact ⟨_, rfl, _, _, _, [], _, [], hW', trodAll_mk1 (shut_bool Tryz.underlying4 _), (trodAll_cons_mk (Below.trod laidOutT (by kernel_rfl) (of_decide_eq_true (by kernel_rfl)) k0 bel lt0) (trodAll_cons_mk (Below.trod laidOutT (by kernel_rfl) (of_decide_eq_true (by kernel_rfl)) k1 bel lt1) (trodAll_cons_mk (Below.trod laidOutT (by kernel_rfl) (of_decide_eq_true (by kernel_rfl)) k2 bel lt2) (trodAll_cons_mk (Below.trod laidOutT (by kernel_rfl) (of_decide_eq_true (by kernel_rfl)) k3 bel lt3) (trodAll_cons_mk (Below.trod laidOutT (by kernel_rfl) (of_decide_eq_true (by kernel_rfl)) k4 bel lt4) trodAll_mk0))))), rfl, bel.frame _, fun h => by cases h⟩

theorem over : Rows.LocalHearsSaid :=
  OpenClaim.holds_of_wide 4 Tryz.f4 rfl rfl rfl rfl rfl rfl rfl ⟨rfl, rfl, rfl, rfl, rfl⟩ rfl rfl rfl rfl rfl (by kernel_rfl) Tryz.func4 (by kernel_rfl)
    (of_decide_eq_true (by kernel_rfl)) (by unfold Func.isWrapper; first | (rw [if_pos (by decide +kernel)]; kernel_rfl) | (rw [if_neg (by decide +kernel)]; exact ⟨rfl, rfl⟩))
    (fun os started H enc _ => lifted os started H enc)

theorem proved : Rows.LocalHearsCardSaid :=
  Claim7.holds_tied_plain_at .later [] [.data, .data, .data, .data, .sentinel, .sentinel, .pinned] true Rows.localHearsCard.stood.harness true
    over (fun _ h => by cases h) (by kernel_rfl) (fun _ h => by cases h) localHears_row_tie rfl ⟨rfl, rfl⟩ (by kernel_rfl) rfl
    (fun f fn hf hfn => by
      obtain rfl : f = 4 := Option.some.inj ((show Tryz.prog.funcNamed "covey/coveylaw23.LocalHears" = some 4 by kernel_rfl).symm.trans hf) |>.symm
      obtain rfl : fn = Tryz.f4 := (Option.some.inj (Tryz.func4.symm.trans hfn)).symm
      exact ⟨by kernel_rfl, fun j t ht => by
        rw [Tryz.params4] at ht
        have hm : t ∈ [9, 9, 22, 22, 40] := by simpa using Array.mem_of_getElem? ht
        have hall : ([9, 9, 22, 22, 40].all fun u => !Tryz.prog.wantsStandIn u) = true := by kernel_rfl
        exact (show Tryz.prog.wantsStandIn t = false by simpa using List.all_eq_true.1 hall t hm)⟩)
    (by kernel_rfl)
#print axioms proved
end Go.Proofs.YtnflhjagmngimaaGreatDoor.localHears
