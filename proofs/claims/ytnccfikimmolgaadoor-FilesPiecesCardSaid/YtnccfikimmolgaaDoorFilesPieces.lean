/-
  FilesPieces returns true, for every input, its arguments as they were; the three tables of the library tied to the program's text. No condition but the row's own ('laid').
-/
import Derived.Test.YtnccfikimmolgaaDoorLaw5
import Derived.Test.YtnccfikimmolgaaDoorSpV
import Derived.Test.YtnccfikimmolgaaDoorTie
import Derived.Test.YtnccfikimmolgaaDoorCards
import Derived.SevenTiedAt
namespace Go.Proofs.YtnccfikimmolgaaDoor.filesPieces
set_option linter.unusedSimpArgs false
set_option linter.unusedVariables false
open Go.ChangeShapes Go.WideShapes Go.ChangeAt Go.RowKit Go.Deep

set_option maxRecDepth 100000 in
set_option maxHeartbeats 4000000 in
theorem law_any (a : Option Addr) (c : Nat) (l : List FileV) (n : Int) (new : Bool) (i : Int) (w : World) (h : FilesAt w a c l) (ht : Tab w) (h0 : -9223372036854775808 ≤ n) (h1 : n ≤ 9223372036854775807) :
    Calls Tryd.prog 6 #[.slice a l.length c, .int .i64 n, .bool new, .int .i64 i] w fun e w' => e = .returned (.bool true) ∧ New w w' := by
  have HL := hid (small_any a c l w h)
  have HP := hid (fun W (n' : New w W) => Pieces_any a c l n new W (h.new n') (ht.new n') h0 h1)
  have HRP := hid (fun W (n' : New w W) => rPieces_any a c l n new W (h.new n') h0 h1)
  have HZ := hid (fun W (n' : New w W) => Size_any a c l n i new W (h.new n') (ht.new n') h0 h1)
  have HRZ := hid (fun W (n' : New w W) => rSize_any a c l n i new W (h.new n') h0 h1)
  have HS := hid (fun W (n' : New w W) => Spans_any a c l n i new W (h.new n') (ht.new n') h0 h1)
  have HRS := hid (fun W (n' : New w W) => rSpans_any a c l n i new W (h.new n') h0 h1)
  have HEQ := hid (fun a b c d (S : List SpanV) W (h : SpansAt W a c S) (k : SpansAt W b d S) => (decide_eq_true (rfl : S = S)) ▸ eqspans_any a b c d S S W h k)
  have HA := hid (fun W (n : New w W) => awake_any W (ht.new n))
  clear h ht
  obtain ⟨P, hP⟩ : ∃ P, P = piecesRes l n new := ⟨_, rfl⟩
  obtain ⟨WE, hWE⟩ : ∃ WE, WE = wayErr l n := ⟨_, rfl⟩
  obtain ⟨S, hS⟩ : ∃ S, S = spansRes l n new i := ⟨_, rfl⟩
  obtain ⟨SE, hSE⟩ : ∃ SE, SE = spansErr l n new i := ⟨_, rfl⟩
  obtain ⟨Z, hZ⟩ : ∃ Z, Z = cntOf S := ⟨_, rfl⟩
  rw [← hP, ← hWE] at HP HRP
  rw [← hS, ← hSE] at HS HRS HZ HRZ
  rw [← hZ] at HZ HRZ
  clear hP hWE hS hSE hZ
  go_enter Tryd.func6, Tryd.ntmps6
  go_wp2_with fail
  refine HL.out.mono ?_
  rintro e w1 ⟨⟨v, rfl⟩, n1⟩
  have N1 := hid n1
  clear n1
  cases v with
  | false =>
    go_wp2_with fail
    refine (HA.out _ N1.out).mono ?_
    rintro e w2 ⟨rfl, n2⟩
    have N2 := hid n2
    clear n2
    go_wp2
    go_ret
    exact ⟨rfl, N1.out.trans N2.out⟩
  | true =>
    go_wp2_with fail
    refine (HP.out _ N1.out).mono ?_
    rintro e w2 ⟨rfl, n2⟩
    have N2 := hid (N1.out.trans n2)
    clear n2
    go_wp2_with fail
    refine (HRP.out _ N2.out).mono ?_
    rintro e w3 ⟨rfl, n3⟩
    have N3 := hid (N2.out.trans n3)
    clear n3
    go_wp2_with fail
    refine (HZ.out _ N3.out).mono ?_
    rintro e w4 ⟨rfl, n4⟩
    have N4 := hid (N3.out.trans n4)
    clear n4
    go_wp2_with fail
    refine (HRZ.out _ N4.out).mono ?_
    rintro e w5 ⟨rfl, n5⟩
    have N5 := hid (N4.out.trans n5)
    clear n5
    go_wp2_with fail
    refine (HS.out _ N5.out).mono ?_
    rintro e w6 ⟨sa, sc, rfl, s6, n6⟩
    have N6 := hid (N5.out.trans n6)
    have S6 := hid s6
    clear n6 s6
    go_wp2_with fail
    refine (HRS.out _ N6.out).mono ?_
    rintro e w7 ⟨ra, rc, rfl, s7, n7⟩
    have N7 := hid (N6.out.trans n7)
    have S7 := hid s7
    have S67 := hid (S6.out.new n7)
    clear n7 s7 S6
    go_wp2_with fail
    refine (HEQ.out _ _ _ _ _ _ S67.out S7.out).mono ?_
    rintro e w8 ⟨rfl, n8⟩
    have N8 := hid (N7.out.trans n8)
    clear n8
    go_wp2_with fail
    refine (HA.out _ N8.out).mono ?_
    rintro e w9 ⟨rfl, n9⟩
    have N9 := hid (N8.out.trans n9)
    clear n9
    go_wp2
    go_ret
    exact ⟨rfl, N9.out⟩

set_option maxRecDepth 100000 in
theorem lifted (os : Os) (started : os.Started) (H : Type) (enc : TypeId × Value → H) :
    ReturnsInHanded {} Tryd.checked os 6 .any (fun w args => (Rows.filesPiecesSpec.pre enc Tryd.prog Tryd.f6 [] false w args ∧ laidMetH Tryd.prog tables w) ∧ sizedMet enc Tryd.prog Tryd.f6 (OpenSpec.ofChange Rows.filesPiecesSpec) false w args)
      (Rows.filesPiecesSpec.post enc Tryd.prog Tryd.f6 false true false false) := by
  refine returnsInHanded_of_change_and (C := Tryd.checked) (X := fun w _ => laidMetH Tryd.prog tables w) (fun _ _ _ hh h => h.of_heap hh) own started (by kernel_rfl) Tryd.func6
    (ChangeSpec.witness_shaped (enc := enc) (C := Tryd.checked) (os := os) (X := fun w _ => laidMetH Tryd.prog tables w) false (World.doorLaid Tryd.prog 24 os) #[.slice none 0 0, .int .i64 0, .bool false, .int .i64 0] 8 rfl (World.shaped_of_RefB (by kernel_rfl) (by kernel_rfl)) (by kernel_rfl) (by kernel_rfl) (by kernel_rfl) (door_met os _)) ?_
  intro W base args ds gs before hval0 hW _ _ hL _
  have hval : ∀ (j : Nat) t v, Tryd.f6.params[j]? = some t → args[j]? = some v → Value.okWide Tryd.prog W .any base t v := hval0
  have hW' := hW
  obtain ⟨p, q, hA0, hV, rfl, hfz, hnd⟩ := hW
  have hA : DataW.TrodAll enc Tryd.prog W 0 (fun _ => true) true Tryd.f6.params.toList args.toList ds p := hA0
  rw [Tryd.params6] at hA hval
  obtain ⟨v0, vs0, d0, ds0, p0, q0, hargs, rfl, rfl, h0, r0⟩ := trodAll_cons hA
  obtain ⟨v1, vs1, d1, ds1, p1, q1, rfl, rfl, rfl, h1, r1⟩ := trodAll_cons r0
  obtain ⟨v2, vs2, d2, ds2, p2, q2, rfl, rfl, rfl, h2, r2⟩ := trodAll_cons r1
  obtain ⟨v3, vs3, d3, ds3, p3, q3, rfl, rfl, rfl, h3, r3⟩ := trodAll_cons r2
  obtain ⟨rfl, rfl, rfl⟩ := trodAll_nil r3
  obtain rfl : args = #[v0, v1, v2, v3] := by cases args; simp_all
  obtain ⟨rfl, rfl⟩ := trodVars_none hV
  have k0 := h0
  have k1 := h1
  have k2 := h2
  have k3 := h3
  have lt0 : ∀ x ∈ p0, x.block < W.heap.size := by obtain ⟨m, hm⟩ := k0; exact DataW.trod_lt m _ _ _ hm
  have lt1 : ∀ x ∈ p1, x.block < W.heap.size := by obtain ⟨m, hm⟩ := k1; exact DataW.trod_lt m _ _ _ hm
  have lt2 : ∀ x ∈ p2, x.block < W.heap.size := by obtain ⟨m, hm⟩ := k2; exact DataW.trod_lt m _ _ _ hm
  have lt3 : ∀ x ∈ p3, x.block < W.heap.size := by obtain ⟨m, hm⟩ := k3; exact DataW.trod_lt m _ _ _ hm
  obtain ⟨a_l, len_l, c_l, rfl⟩ := okWide_slice Tryd.underlying22 (hval 0 22 v0 rfl rfl)
  obtain ⟨l, hlen_l, h_l⟩ : ∃ l, l.length = len_l ∧ FilesAt W a_l c_l l := by
    obtain ⟨fuel, hf⟩ := h0
    obtain ⟨a', c', l, hcs, hfa⟩ := open_files hf
    simp [Value.cells] at hcs
    obtain ⟨rfl, rfl, rfl⟩ := hcs
    exact ⟨l, rfl, hfa⟩
  subst hlen_l
  obtain ⟨n, rfl, -, -, w_n⟩ := open_int Tryd.underlying3 (hval 1 3 v1 rfl rfl) h1
  obtain ⟨lo_n, hi_n⟩ := wf_bounds w_n
  obtain ⟨b, rfl, -⟩ := open_bool Tryd.underlying4 (hval 2 4 v2 rfl rfl) h2
  obtain ⟨i, rfl, -, -, w_i⟩ := open_int Tryd.underlying3 (hval 3 3 v3 rfl rfl) h3
  obtain ⟨lo_i, hi_i⟩ := wf_bounds w_i
  have ht := tab_of hL
  clear hA0 hval0
  refine (law_any a_l c_l l n b i W h_l ht lo_n hi_n).mono fun e W' ⟨he, hn⟩ => ?_
  subst he
  have bel : Below W.heap.size W W' := hn.below _ (Nat.le_refl _) (fun _ _ x => x)
  exact ⟨_, rfl, _, _, _, [], _, [], hW', trodAll_mk1 (shut_bool Tryd.underlying4 _), (trodAll_cons_mk (Below.trod laidOut (by kernel_rfl) (of_decide_eq_true (by kernel_rfl)) k0 bel lt0) (trodAll_cons_mk (Below.trod laidOut (by kernel_rfl) (of_decide_eq_true (by kernel_rfl)) k1 bel lt1) (trodAll_cons_mk (Below.trod laidOut (by kernel_rfl) (of_decide_eq_true (by kernel_rfl)) k2 bel lt2) (trodAll_cons_mk (Below.trod laidOut (by kernel_rfl) (of_decide_eq_true (by kernel_rfl)) k3 bel lt3) trodAll_mk0)))), rfl, bel.frame _, fun h => by cases h⟩

theorem over : Rows.FilesPiecesSaid :=
  OpenClaim.holds_of_wide 6 Tryd.f6 rfl rfl rfl rfl rfl rfl rfl ⟨rfl, rfl, rfl, rfl, rfl⟩ rfl rfl rfl rfl rfl (by kernel_rfl) Tryd.func6 (by kernel_rfl)
    (of_decide_eq_true (by kernel_rfl)) (by unfold Func.isWrapper; first | (rw [if_pos (by decide +kernel)]; kernel_rfl) | (rw [if_neg (by decide +kernel)]; exact ⟨rfl, rfl⟩))
    (fun os started H enc _ => lifted os started H enc)

theorem proved : Rows.FilesPiecesCardSaid :=
  Claim7.holds_tied_plain_at .later [] [.data, .data, .data] true Rows.filesPiecesCard.stood.harness true
    over (fun _ h => by cases h) (by kernel_rfl) (fun _ h => by cases h) filesPieces_row_tie rfl ⟨rfl, rfl⟩ (by kernel_rfl) rfl
    (fun f fn hf hfn => by
      obtain rfl : f = 6 := Option.some.inj ((show Tryd.prog.funcNamed "covey/coveylaw05.FilesPieces" = some 6 by kernel_rfl).symm.trans hf) |>.symm
      obtain rfl : fn = Tryd.f6 := (Option.some.inj (Tryd.func6.symm.trans hfn)).symm
      exact ⟨by kernel_rfl, fun j t ht => by
        rw [Tryd.params6] at ht
        have hm : t ∈ [22, 3, 4, 3] := by simpa using Array.mem_of_getElem? ht
        have hall : ([22, 3, 4, 3].all fun u => !Tryd.prog.wantsStandIn u) = true := by kernel_rfl
        exact (show Tryd.prog.wantsStandIn t = false by simpa using List.all_eq_true.1 hall t hm)⟩)
    (by kernel_rfl)
#print axioms proved
end Go.Proofs.YtnccfikimmolgaaDoor.filesPieces
