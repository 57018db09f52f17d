/-
  WebHeaders returns true, for every input, its arguments as they were; the tables and errors of the library tied to the program's text. No condition but the row's own ('laid').
-/
import Derived.Test.YtnhgichiedninaaDoorFrm
import Derived.Test.YtnhgichiedninaaDoorOpF
import Derived.Test.YtnhgichiedninaaDoorOpA
import Derived.Test.YtnhgichiedninaaDoorWa30
import Derived.Test.YtnhgichiedninaaDoorWg
import Derived.Test.YtnhgichiedninaaDoorTie
import Derived.Test.YtnhgichiedninaaDoorCards
import Derived.SevenTiedAt
namespace Go.Proofs.YtnhgichiedninaaDoor.webHeaders
set_option linter.unusedSimpArgs false
set_option linter.unusedVariables false
open Go.ChangeShapes Go.WideShapes Go.ChangeAt Go.RowKit Go.Deep

section
variable {H : Type} {enc : TypeId × Value → H} {w : World} {base : Nat} {spare : Nat → Bool} {held : Bool}
set_option maxRecDepth 100000 in
theorem open_fetch {r : Reach} {b0 : Nat} {v : Value} {d : DataW H} {p : List MemPlace} (hv : Value.okWide Tryd.prog w r b0 30 v) (h : DataW.Trod enc Tryd.prog w base spare held 30 v d p) :
    ∃ (a b c e : Int) (s : ByteArray), v = .agg #[.int .i64 a, .int .i64 b, .int .i64 c, .int .i64 e, .string s] ∧ (-9223372036854775808 ≤ c ∧ c ≤ 9223372036854775807) ∧ (-9223372036854775808 ≤ e ∧ e ≤ 9223372036854775807) := by
  obtain ⟨cs, xs, n, rfl, hsz, -, hf⟩ := open_aggN Tryd.underlying30 (by kernel_rfl) (by kernel_rfl) hv h
  obtain ⟨u0, y0, e0, -, t0⟩ := hf 0 _ rfl
  obtain ⟨u1, y1, e1, -, t1⟩ := hf 1 _ rfl
  obtain ⟨u2, y2, e2, -, t2⟩ := hf 2 _ rfl
  obtain ⟨u3, y3, e3, -, t3⟩ := hf 3 _ rfl
  obtain ⟨u4, y4, e4, -, t4⟩ := hf 4 _ rfl
  obtain ⟨x0, c0, -, -⟩ := DataW.trod_int Tryd.underlying3 t0
  obtain ⟨x1, c1, -, -⟩ := DataW.trod_int Tryd.underlying3 t1
  obtain ⟨x2, c2, -, w2⟩ := DataW.trod_int Tryd.underlying3 t2
  obtain ⟨x3, c3, -, w3⟩ := DataW.trod_int Tryd.underlying3 t3
  obtain ⟨s, c4, -, -⟩ := DataW.trod_string Tryd.underlying9 t4
  simp at c0 c1 c2 c3 c4
  subst c0 c1 c2 c3 c4
  refine ⟨x0, x1, x2, x3, s, ?_, wf_bounds w2, wf_bounds w3⟩
  obtain ⟨l⟩ := cs
  match l, hsz with
  | [a, b, c, d, e], _ =>
    simp at e0 e1 e2 e3 e4
    rw [e0, e1, e2, e3, e4]
end
theorem hdr_size {f c : Int} (h : hdrOk f c = true) : (hdrB f c).size ≤ 1000000 := by
  obtain ⟨h0, h1, h2, h3⟩ := hdrOk_iff.1 h
  have z1 := itoa_size (n := f) (by omega) (by omega)
  have z2 := itoa_size (n := f + c - 1) (by omega) (by omega)
  unfold hdrB
  rw [ByteArray.size_append, ByteArray.size_append, ByteArray.size_append]
  show 6 + _ + 1 + _ ≤ _
  omega
set_option maxRecDepth 100000 in
set_option maxHeartbeats 8000000 in
theorem law_any (f0 f1 f2 f3 : Int) (fp text : ByteArray) (w : World) (hv : VarsH w) (ht : text.size ≤ maxLen) (b0 : -9223372036854775808 ≤ f2 ∧ f2 ≤ 9223372036854775807) (b1 : -9223372036854775808 ≤ f3 ∧ f3 ≤ 9223372036854775807) :
    Calls Tryd.prog 4 #[.agg #[.int .i64 f0, .int .i64 f1, .int .i64 f2, .int .i64 f3, .string fp], .string text] w fun e w' => e = .returned (.bool true) ∧ New w w' := by
  unfold maxLen at ht
  have HA := hid (fun W (n : New w W) => awake30_any W (hv.new n).tab)
  have HHD := hid (fun a b c d e W (n : New w W) => Header_any a b c d e W (hv.new n).tab)
  have HPH := hid (fun s (q : s.size ≤ 1000000) W (n : New w W) => ParseHeader_any s W (hv.new n) q)
  have HB := hid (Blk.new w #[.int .i64 f0, .int .i64 f1, .int .i64 f2, .int .i64 f3, .string fp] 30)
  have HN := hid ((Mod.refl _ w).alloc (.cells #[.int .i64 f0, .int .i64 f1, .int .i64 f2, .int .i64 f3, .string fp] 30) : New w _)
  clear hv
  by_cases h200 : 200 < text.size
  · go_enter Tryd.func4, Tryd.ntmps4
    go_wp2_with fail
    refine (HA.out _ HN.out).mono ?_
    rintro e w99 ⟨rfl, n9⟩
    have N99 := hid n9
    clear n9
    go_wp2
    go_ret
    exact ⟨rfl, (HN.out).trans N99.out⟩
  go_enter Tryd.func4, Tryd.ntmps4
  go_wp2_with fail
  refine (HPH.out text (by omega) _ HN.out).mono ?_
  intro e w1 ho
  obtain ⟨f, c, E, rfl, hor, -, n1⟩ := ho
  have N1 := hid (HN.out.trans n1)
  have B1 := hid (n1.blk HB.out)
  clear n1
  rcases hor with ⟨rfl, k1, k2⟩ | ⟨rfl, rfl, rfl⟩
  · go_wp2_with fail
    refine (HHD.out _ _ _ _ _ _ N1.out).mono ?_
    rintro e w2 ⟨rfl, n2⟩
    have N2 := hid (N1.out.trans n2)
    have B2 := hid (n2.blk B1.out)
    clear n2
    rw [show hdrErr f c = 0 by unfold hdrErr; rw [if_pos k1], show hdrRes f c = text by unfold hdrRes; rw [if_pos k1]; exact k2]
    clear k1 k2
    have d2 := B2.out.cellv 2 rfl; have d3 := B2.out.cellv 3 rfl
    have d0 := B2.out.cellv 0 rfl; have d1 := B2.out.cellv 1 rfl; have d4 := B2.out.cellv 4 rfl
    have db := B2.out.lt
    by_cases r1 : f2 < 0
    · go_wp2_with fail
      refine (HA.out _ N2.out).mono ?_
      rintro e w99 ⟨rfl, n9⟩
      have N99 := hid n9
      clear n9
      go_wp2
      go_ret
      exact ⟨rfl, (N2.out).trans N99.out⟩
    by_cases r2 : f3 < 1
    · go_wp2_with fail
      refine (HA.out _ N2.out).mono ?_
      rintro e w99 ⟨rfl, n9⟩
      have N99 := hid n9
      clear n9
      go_wp2
      go_ret
      exact ⟨rfl, (N2.out).trans N99.out⟩
    by_cases r3 : 60000 < f2
    · go_wp2_with fail
      refine (HA.out _ N2.out).mono ?_
      rintro e w99 ⟨rfl, n9⟩
      have N99 := hid n9
      clear n9
      go_wp2
      go_ret
      exact ⟨rfl, (N2.out).trans N99.out⟩
    by_cases r4 : 60000 < f3
    · go_wp2_with fail
      refine (HA.out _ N2.out).mono ?_
      rintro e w99 ⟨rfl, n9⟩
      have N99 := hid n9
      clear n9
      go_wp2
      go_ret
      exact ⟨rfl, (N2.out).trans N99.out⟩
    have hok : hdrOk f2 f3 = true := hdrOk_iff.2 ⟨by omega, by omega, by omega, by omega⟩
    go_wp2_with fail
    refine (HHD.out _ _ _ _ _ _ N2.out).mono ?_
    rintro e w5 ⟨rfl, n5⟩
    have N5 := hid (N2.out.trans n5)
    have B5 := hid (n5.blk B2.out)
    clear n5 d0 d1 d2 d3 d4 db
    rw [show hdrErr f2 f3 = 0 by unfold hdrErr; rw [if_pos hok], show hdrRes f2 f3 = hdrB f2 f3 by unfold hdrRes; rw [if_pos hok]]
    obtain ⟨S, hS⟩ : ∃ S, S = hdrB f2 f3 := ⟨_, rfl⟩
    have hsz : S.size ≤ 1000000 := by rw [hS]; exact hdr_size hok
    rw [← hS]
    have HSS := hid hS; have HOK := hid hok
    clear hS hok
    go_wp2_with fail
    refine (HPH.out S hsz _ N5.out).mono ?_
    intro e w6 ho
    obtain ⟨f, c, E, rfl, -, hun, n6⟩ := ho
    obtain ⟨u1, u2, u3⟩ := hun f2 f3 HOK.out HSS.out
    have u2 := u2.symm; have u3 := u3.symm
    subst u1 u2 u3
    have N6 := hid (N5.out.trans n6)
    have B6 := hid (n6.blk B5.out)
    clear n6 hun
    have d2 := B6.out.cellv 2 rfl; have d3 := B6.out.cellv 3 rfl
    have db := B6.out.lt
    go_wp2_with fail
    refine (HA.out _ N6.out).mono ?_
    rintro e w99 ⟨rfl, n9⟩
    have N99 := hid n9
    clear n9
    go_wp2
    go_ret
    exact ⟨rfl, (N6.out).trans N99.out⟩
  · have d2 := B1.out.cellv 2 rfl; have d3 := B1.out.cellv 3 rfl
    have d0 := B1.out.cellv 0 rfl; have d1 := B1.out.cellv 1 rfl; have d4 := B1.out.cellv 4 rfl
    have db := B1.out.lt
    by_cases r1 : f2 < 0
    · go_wp2_with fail
      refine (HA.out _ N1.out).mono ?_
      rintro e w99 ⟨rfl, n9⟩
      have N99 := hid n9
      clear n9
      go_wp2
      go_ret
      exact ⟨rfl, (N1.out).trans N99.out⟩
    by_cases r2 : f3 < 1
    · go_wp2_with fail
      refine (HA.out _ N1.out).mono ?_
      rintro e w99 ⟨rfl, n9⟩
      have N99 := hid n9
      clear n9
      go_wp2
      go_ret
      exact ⟨rfl, (N1.out).trans N99.out⟩
    by_cases r3 : 60000 < f2
    · go_wp2_with fail
      refine (HA.out _ N1.out).mono ?_
      rintro e w99 ⟨rfl, n9⟩
      have N99 := hid n9
      clear n9
      go_wp2
      go_ret
      exact ⟨rfl, (N1.out).trans N99.out⟩
    by_cases r4 : 60000 < f3
    · go_wp2_with fail
      refine (HA.out _ N1.out).mono ?_
      rintro e w99 ⟨rfl, n9⟩
      have N99 := hid n9
      clear n9
      go_wp2
      go_ret
      exact ⟨rfl, (N1.out).trans N99.out⟩
    have hok : hdrOk f2 f3 = true := hdrOk_iff.2 ⟨by omega, by omega, by omega, by omega⟩
    go_wp2_with fail
    refine (HHD.out _ _ _ _ _ _ N1.out).mono ?_
    rintro e w5 ⟨rfl, n5⟩
    have N5 := hid (N1.out.trans n5)
    have B5 := hid (n5.blk B1.out)
    clear n5 d0 d1 d2 d3 d4 db
    rw [show hdrErr f2 f3 = 0 by unfold hdrErr; rw [if_pos hok], show hdrRes f2 f3 = hdrB f2 f3 by unfold hdrRes; rw [if_pos hok]]
    obtain ⟨S, hS⟩ : ∃ S, S = hdrB f2 f3 := ⟨_, rfl⟩
    have hsz : S.size ≤ 1000000 := by rw [hS]; exact hdr_size hok
    rw [← hS]
    have HSS := hid hS; have HOK := hid hok
    clear hS hok
    go_wp2_with fail
    refine (HPH.out S hsz _ N5.out).mono ?_
    intro e w6 ho
    obtain ⟨f, c, E, rfl, -, hun, n6⟩ := ho
    obtain ⟨u1, u2, u3⟩ := hun f2 f3 HOK.out HSS.out
    have u2 := u2.symm; have u3 := u3.symm
    subst u1 u2 u3
    have N6 := hid (N5.out.trans n6)
    have B6 := hid (n6.blk B5.out)
    clear n6 hun
    have d2 := B6.out.cellv 2 rfl; have d3 := B6.out.cellv 3 rfl
    have db := B6.out.lt
    go_wp2_with fail
    refine (HA.out _ N6.out).mono ?_
    rintro e w99 ⟨rfl, n9⟩
    have N99 := hid n9
    clear n9
    go_wp2
    go_ret
    exact ⟨rfl, (N6.out).trans N99.out⟩
theorem syn_type : Tryd.prog.globalNamed "strconv.ErrSyntax" = some 1 ∧ (Tryd.prog.globals[1]?).map (·.type) = some 48 := ⟨by kernel_rfl, by kernel_rfl⟩
theorem rng_type : Tryd.prog.globalNamed "strconv.ErrRange" = some 2 ∧ (Tryd.prog.globals[2]?).map (·.type) = some 48 := ⟨by kernel_rfl, by kernel_rfl⟩
theorem vars_ofH {x y : String × DataW Unit} {r : List (String × DataW Unit)} {W : World} (h : laidMet Tryd.prog (x :: y :: ("internal/strconv.uint64pow10", Rows.laid_internal_strconv_uint64pow10) :: ("strconv.ErrRange", Rows.laid_strconv_ErrRange) :: ("strconv.ErrSyntax", Rows.laid_strconv_ErrSyntax) :: r) W) (hs : W.ShapedOpen Tryd.prog) : VarsH W := by
  have h2 := h.tail.tail
  have h3 := h2.tail
  have h4 := h3.tail
  refine ⟨tab_head h2, ?_, ?_, ?_⟩
  · exact laid_iface h4 syn_type.1 syn_type.2 Tryd.underlying48
  · exact laid_iface h3 rng_type.1 rng_type.2 Tryd.underlying48
  · exact cell_of_shapedOpen_int (g := 0) (t := 3) (zero := #[.int .i64 0]) hs (of_decide_eq_true (by kernel_rfl)) (by kernel_rfl) rfl (by kernel_rfl) (by kernel_rfl) Tryd.underlying3
set_option maxRecDepth 100000 in
theorem lifted (os : Os) (started : os.Started) (H : Type) (enc : TypeId × Value → H) :
    ReturnsInHanded {} Tryd.checked os 4 .any (fun w args => (Rows.webHeadersSpec.pre enc Tryd.prog Tryd.f4 [] false w args ∧ laidMetH Tryd.prog Rows.webHeadersRow.laid w) ∧ sizedMet enc Tryd.prog Tryd.f4 (OpenSpec.ofChange Rows.webHeadersSpec) false w args)
      (Rows.webHeadersSpec.post enc Tryd.prog Tryd.f4 false true false false) := by
  refine returnsInHanded_full (C := Tryd.checked) (X := fun w _ => laidMetH Tryd.prog Rows.webHeadersRow.laid w) (fun _ _ _ hh h => h.of_heap hh) ownT started (by kernel_rfl) Tryd.func4
    (ChangeSpec.witness_shaped (enc := enc) (C := Tryd.checked) (os := os) (X := fun w _ => laidMetH Tryd.prog Rows.webHeadersRow.laid w) false (World.laidAll Tryd.prog os Rows.webHeadersRow.laid) #[.agg #[.int .i64 0, .int .i64 0, .int .i64 0, .int .i64 0, .string ⟨#[]⟩], .string ⟨#[]⟩] 8 (World.laidAll_os _ _ _) (World.shaped_of_ZipB (by kernel_rfl) (by kernel_rfl)) (by kernel_rfl) (by kernel_rfl) (by kernel_rfl) (by rw [MakeChecks.laidMetH_plain _ _ _ (by kernel_rfl)]; exact laidMet_laidAll _ (by kernel_rfl) (by kernel_rfl))) ?_
  intro W base args ds gs before hval0 hW _ hZ0 hL hsh _
  have hval : ∀ (j : Nat) t v, Tryd.f4.params[j]? = some t → args[j]? = some v → Value.okWide Tryd.prog W .any base t v := hval0
  have hZ : (DataW.weightsEach Tryd.prog (Tryd.f4.params.toList ++ Rows.webHeadersSpec.plain.varTypes Tryd.prog) (ds ++ gs)).all (· ≤ reachBytes) = true := hZ0
  have hW' := hW
  obtain ⟨p, q, hA0, hV, rfl, hfz, hnd⟩ := hW
  have hA : DataW.TrodAll enc Tryd.prog W 0 (fun _ => true) true Tryd.f4.params.toList args.toList ds p := hA0
  rw [Tryd.params4] at hA hval hZ
  obtain ⟨v0, vs0, d0, ds0, p0, q0, hargs, rfl, rfl, h0, r0⟩ := trodAll_cons hA
  obtain ⟨v1, vs1, d1, ds1, p1, q1, rfl, rfl, rfl, h1, r1⟩ := trodAll_cons r0
  obtain ⟨rfl, rfl, rfl⟩ := trodAll_nil r1
  obtain rfl : args = #[v0, v1] := by cases args; simp_all
  obtain ⟨rfl, rfl⟩ := trodVars_none hV
  have k0 := h0
  have k1 := h1
  have lt0 : ∀ x ∈ p0, x.block < W.heap.size := by obtain ⟨m, hm⟩ := k0; exact DataW.trod_lt m _ _ _ hm
  have lt1 : ∀ x ∈ p1, x.block < W.heap.size := by obtain ⟨m, hm⟩ := k1; exact DataW.trod_lt m _ _ _ hm
  obtain ⟨f0, f1, f2, f3, f4, rfl, b_f2, b_f3⟩ := open_fetch (hval 0 30 v0 rfl rfl) h0
  obtain ⟨text, rfl, -, -, h_text⟩ := Go.ChangeMaps.open_string Tryd.underlying9 (hval 1 9 v1 rfl rfl) h1
  clear hA0 hval0 hZ0
  refine (law_any f0 f1 f2 f3 f4 text W (vars_ofH (by rw [MakeChecks.laidMetH_plain _ _ _ (by kernel_rfl)] at hL; exact hL) hsh) h_text b_f2 b_f3).mono fun e W' ⟨he, hn⟩ => ?_
  subst he
  have bel : Below W.heap.size W W' := hn.below _ (Nat.le_refl _) (fun _ _ x => x)
  exact ⟨_, rfl, _, _, _, [], _, [], hW', trodAll_mk1 (shut_bool Tryd.underlying4 _), (trodAll_cons_mk (Below.trod laidOutT (by kernel_rfl) (of_decide_eq_true (by kernel_rfl)) k0 bel lt0) (trodAll_cons_mk (Below.trod laidOutT (by kernel_rfl) (of_decide_eq_true (by kernel_rfl)) k1 bel lt1) trodAll_mk0)), rfl, bel.frame _, fun h => by cases h⟩

theorem over : Rows.WebHeadersSaid :=
  OpenClaim.holds_of_wide 4 Tryd.f4 rfl rfl rfl rfl rfl rfl rfl ⟨rfl, rfl, rfl, rfl, rfl⟩ rfl rfl rfl rfl rfl (by kernel_rfl) Tryd.func4 (by kernel_rfl)
    (of_decide_eq_true (by kernel_rfl)) (by unfold Func.isWrapper; first | (rw [if_pos (by decide +kernel)]; kernel_rfl) | (rw [if_neg (by decide +kernel)]; exact ⟨rfl, rfl⟩))
    (fun os started H enc _ => lifted os started H enc)

theorem proved : Rows.WebHeadersCardSaid :=
  Claim7.holds_tied_plain_at .later [] [.data, .data, .data, .sentinel, .sentinel] true Rows.webHeadersCard.stood.harness true
    over (fun _ h => by cases h) (by kernel_rfl) (fun _ h => by cases h) webHeaders_row_tie rfl ⟨rfl, rfl⟩ (by kernel_rfl) rfl
    (fun f fn hf hfn => by
      obtain rfl : f = 4 := Option.some.inj ((show Tryd.prog.funcNamed "covey/coveylaw30.WebHeaders" = some 4 by kernel_rfl).symm.trans hf) |>.symm
      obtain rfl : fn = Tryd.f4 := (Option.some.inj (Tryd.func4.symm.trans hfn)).symm
      exact ⟨by kernel_rfl, fun j t ht => by
        rw [Tryd.params4] at ht
        have hm : t ∈ [30, 9] := by simpa using Array.mem_of_getElem? ht
        have hall : ([30, 9].all fun u => !Tryd.prog.wantsStandIn u) = true := by kernel_rfl
        exact (show Tryd.prog.wantsStandIn t = false by simpa using List.all_eq_true.1 hall t hm)⟩)
    (by kernel_rfl)
#print axioms proved
end Go.Proofs.YtnhgichiedninaaDoor.webHeaders
