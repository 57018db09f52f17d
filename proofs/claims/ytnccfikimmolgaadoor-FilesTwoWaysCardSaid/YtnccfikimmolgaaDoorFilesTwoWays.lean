/-
  FilesTwoWays returns true, for every input, its arguments as they were; the three tables of the library tied to the program's text. No condition but the row's own ('laid').
-/
import Derived.Test.YtnccfikimmolgaaDoorLaw5
import Derived.Test.YtnccfikimmolgaaDoorSpQ
import Derived.Test.YtnccfikimmolgaaDoorSpT
import Derived.Test.YtnccfikimmolgaaDoorTie
import Derived.Test.YtnccfikimmolgaaDoorCards
import Derived.SevenTiedAt
namespace Go.Proofs.YtnccfikimmolgaaDoor.filesTwoWays
set_option linter.unusedSimpArgs false
set_option linter.unusedVariables false
open Go.ChangeShapes Go.WideShapes Go.ChangeAt Go.RowKit Go.Deep

theorem SpansPre {w : World} {a : Option Addr} {c : Nat} {Y R : List SpanV} (h : SpansAt w a c (Y ++ R)) : SpansAt w a c Y := by
  refine ⟨by have := h.room; simp at this; omega, h.cap, ?_⟩
  rcases h.at' with q | ⟨b, o, e, hb, hc⟩
  · exact .inl (by simp at q; exact q.1)
  · exact .inr ⟨b, o, e, hb, fun i s hs => hc i s (by rw [List.getElem?_append_left (List.getElem?_eq_some_iff.1 hs).1]; exact hs)⟩
theorem al_facts {l A : List FileV} {piece : Int} (hf : Fits l) (h : alignOf l piece = (A, 0)) : wayErr A piece = 0 ∧ A = padOf l piece ∧ ∀ f ∈ l, 0 ≤ f.len := by
  unfold alignOf at h
  cases hv : validOf l with
  | false => simp [hv] at h
  | true =>
    cases hp : pieceOf piece with
    | false => simp [hv, hp] at h
    | true =>
      simp only [hv, hp, if_true] at h
      split at h
      · simp at h
      · next hb =>
        simp at h
        have hvl := (valid_iff hf).1 hv
        have hp2 := piece_range hp
        have hA : padOf l piece = A := h
        have hva : Vld A := by rw [← hA]; exact padded_valid hvl hp2 (by unfold padOf at hb; omega) (by unfold padOf at hb; omega)
        have hv2 := (valid_iff (fun f hf => by
          have := hva.good f hf
          obtain ⟨-, a, b, -⟩ := this
          omega)).2 hva
        exact ⟨by simp [wayErr, hv2, hp], hA.symm, (valid_facts hv).2.2.1⟩
theorem piece_len {l : List FileV} {piece i : Int} {new : Bool} (hb : wayErr l piece = 0) (i0 : 0 ≤ i) (i1 : i < piecesOf l piece new) : 0 < (spansOf l piece new i).length := by
  obtain ⟨hv, hp⟩ := way_ok hb
  obtain ⟨v1, v2, v3, v4⟩ := valid_facts hv
  obtain ⟨p1, p2⟩ := piece_range hp
  rcases Nat.eq_zero_or_pos (spansOf l piece new i).length with h | h
  · exfalso
    have e0 : spansOf l piece new i = [] := List.eq_nil_of_length_eq_zero h
    cases new with
    | true =>
      obtain ⟨h1, h2, h3, h4⟩ := apGo_cnt (piece := piece) (by omega) l i 0 (by omega) v3
      have := h4 i1
      rw [show apGo piece i 0 l = [] from e0] at this
      simp [cntOf] at this
    | false =>
      obtain ⟨h1, h2⟩ := rowGo_cnt (i * piece) ((i + 1) * piece) l 0 0 v3
      have e : (i + 1) * piece = i * piece + piece := by rw [Int.add_mul, Int.one_mul]
      have hi : i * piece < sumOf l := by
        have h3 : i + 1 ≤ (sumOf l + piece - 1) / piece := i1
        have h4 := (Int.le_ediv_iff_mul_le (show 0 < piece by omega)).1 h3
        omega
      have hi0 := Int.mul_nonneg i0 (show 0 ≤ piece by omega)
      rw [show rowGo (i * piece) ((i + 1) * piece) 0 0 l = [] from e0] at h2
      simp [cntOf] at h2
      omega
  · exact h
theorem err_ok {l : List FileV} {piece : Int} {new : Bool} {i : Int} (hb : wayErr l piece = 0) (i0 : 0 ≤ i) (i1 : i < piecesOf l piece new) : spansErr l piece new i = 0 ∧ spansRes l piece new i = spansOf l piece new i := by
  have e : spansErr l piece new i = 0 := by
    unfold spansErr
    rw [if_pos hb, if_neg (by omega)]
  exact ⟨e, by simp [spansRes, e]⟩

set_option maxRecDepth 100000 in
set_option maxHeartbeats 8000000 in
theorem law_any (a : Option Addr) (c : Nat) (l : List FileV) (n : Int) (w : World) (h : FilesAt w a c l) (ht : Tab w) (h0 : -9223372036854775808 ≤ n) (h1 : n ≤ 9223372036854775807) :
    Calls Tryd.prog 5 #[.slice a l.length c, .int .i64 n] w fun e w' => e = .returned (.bool true) ∧ New w w' := by
  have HL := hid (small_any a c l w h)
  have HA := hid (fun W (n : New w W) => awake_any W (ht.new n))
  have HAL := hid (fun W (n' : New w W) => Align_any a c l n W (h.new n') (ht.new n') h0 h1)
  obtain ⟨A, ea, hA⟩ : ∃ A ea, alignOf l n = (A, ea) := ⟨_, _, rfl⟩
  rw [hA] at HAL
  simp only at HAL
  by_cases hea : ea = 0
  · subst hea
    obtain ⟨hb, hpad, hf⟩ := al_facts h.fits hA
    obtain ⟨hv, hp⟩ := way_ok hb
    obtain ⟨v1, v2, v3, v4⟩ := valid_facts hv
    obtain ⟨p1, p2⟩ := piece_range hp
    obtain ⟨tw1, tw2⟩ := two_ways (l := l) (piece := n) (by omega) hf
    rw [← hpad] at tw1 tw2
    have hle := pieces_le (new := false) hb
    have HPF := hid (fun a c W (h : FilesAt W a c A) (n' : New w W) => Pieces_ok a c A n false W h (ht.new n') h0 h1 hb)
    have HPT := hid (fun a c W (h : FilesAt W a c A) (n' : New w W) => Pieces_ok a c A n true W h (ht.new n') h0 h1 hb)
    rw [← tw1] at HPT
    obtain ⟨q, hq⟩ := Int.eq_ofNat_of_zero_le hle.1
    rw [hq] at HPF HPT hle
    have HSF := hid (fun (i : Nat) (hi : (i : Int) < q) a c W (h : FilesAt W a c A) (n' : New w W) => by
      have h2 := Spans_any a c A n i false W h (ht.new n') h0 h1
      have h3 := err_ok (new := false) hb (i := (i : Int)) (by omega) (by omega)
      rw [h3.1, h3.2] at h2
      exact h2)
    have HST := hid (fun (i : Nat) (hi : (i : Int) < q) a c W (h : FilesAt W a c A) (n' : New w W) => by
      have h2 := Spans_any a c A n i true W h (ht.new n') h0 h1
      have h3 := err_ok (new := true) hb (i := (i : Int)) (by omega) (by rw [← tw1]; omega)
      rw [h3.1, h3.2] at h2
      exact h2)
    have HTW := hid (fun (i : Nat) => tw2 (i : Int) (by omega))
    have HLN := hid (fun (i : Nat) (hi : (i : Int) < q) => piece_len (new := true) hb (i := (i : Int)) (by omega) (by rw [← tw1]; omega))
    have hz : 0 < A.length := by omega
    have hle2 := hle.2
    have hpo : pieceOf n = true := hp
    clear h ht hv hp hb v1 v3 v4 hle hq hA hpad hf tw1 tw2 hpo
    go_enter Tryd.func5, Tryd.ntmps5
    go_wp2_with fail
    refine HL.out.mono ?_
    rintro e w1 ⟨⟨v, rfl⟩, n1⟩
    have N1 := hid n1
    clear n1
    cases v with
    | false =>
      go_wp2_with fail
      refine (HA.out _ N1.out).mono ?_
      rintro e w9 ⟨rfl, n9⟩
      have N9 := hid (N1.out.trans n9)
      clear n9
      go_wp2
      go_ret
      exact ⟨rfl, N9.out⟩
    | true =>
      go_wp2_with fail
      refine (HAL.out _ N1.out).mono ?_
      rintro e w2 ⟨aa, ac, rfl, f2, n2⟩
      have N2 := hid (N1.out.trans n2)
      have F2 := hid f2
      clear n2 f2
      go_wp2_with fail
      refine (HPF.out _ _ _ F2.out N2.out).mono ?_
      rintro e w3 ⟨rfl, n3⟩
      have N3 := hid (N2.out.trans n3)
      have F3 := hid (F2.out.new n3)
      clear n3
      go_wp2_with fail
      refine (HPT.out _ _ _ F3.out N3.out).mono ?_
      rintro e w4 ⟨rfl, n4⟩
      have N4 := hid (N3.out.trans n4)
      have hf4 := F3.out.new n4
      obtain ⟨b1, o1, rfl, hb1, hc1⟩ := hf4.get hz
      have hr1 := hf4.room; have hr2 := hf4.cap
      unfold maxLen at hr2
      have F4 := hid hf4
      have HC1 := hid hc1
      clear n4 hf4 hc1 F2 F3 N1 N2 N3
      go_wp2
      go_loopw [54] (fun x wr => ∃ (i : Nat), x = .int .i64 i ∧ i ≤ q ∧ New w4 wr) (fun x _ => q - (intOf x).toNat)
      case atStart => exact ⟨0, rfl, by omega, Mod.refl _ _⟩
      case round =>
        obtain ⟨i, rfl, hi, hn⟩ := hrel
        have HN := hid hn
        clear hn
        by_cases hlt : i < q
        · have hltI : (i : Int) < q := by omega
          have hsf := HSF.out i hltI
          have hst := HST.out i hltI
          have hy0 := HLN.out i hltI
          obtain ⟨R, hR1, hR2⟩ := HTW.out i
          rw [hR1] at hsf
          obtain ⟨Y, hY⟩ : ∃ Y, Y = spansOf A n true i := ⟨_, rfl⟩
          rw [← hY] at hsf hst hy0
          have HSFi := hid hsf; have HSTi := hid hst; have HR := hid hR2
          have HEQ := hid (fun a b c d W (h : SpansAt W a c Y) (k : SpansAt W b d Y) => (decide_eq_true (rfl : Y = Y)) ▸ eqspans_any a b c d Y Y W h k)
          clear hsf hst hR1 hR2 hY hltI
          go_wp2_with fail
          refine (HSFi.out _ _ _ (F4.out.new HN.out) (N4.out.trans HN.out)).mono ?_
          rintro e w5 ⟨sa, sc, rfl, s5, n5⟩
          have N5 := hid (HN.out.trans n5); have S5 := hid s5
          clear n5 s5
          go_wp2_with fail
          refine (HSTi.out _ _ _ (F4.out.new N5.out) (N4.out.trans N5.out)).mono ?_
          rintro e w6 ⟨ta, tc, rfl, s6, n6⟩
          have N6 := hid (N5.out.trans n6); have S6 := hid s6
          have s5 := S5.out.new n6
          obtain ⟨b2, o2, rfl, hb2, hc2⟩ := s5.get (by simp; omega)
          have hq1 := s5.room; have hq2 := s5.cap
          have hq3 := s6.room; have hq4 := s6.cap
          unfold maxLen at hq2 hq4
          have S56 := hid (SpansPre s5)
          have HC2 := hid hc2
          rw [List.length_append] at hq1
          clear n6 s5 s6 hc2 S5 HN N5 HSFi HSTi
          have hI1 : ((Y.length : Int)) ≤ (sc : Int) := by omega
          by_cases hcap : sc = Y.length
          · have hR0 : R.length = 0 := by omega
            obtain rfl : R = [] := List.eq_nil_of_length_eq_zero hR0
            subst hcap
            go_wp2_with fail
            refine (HEQ.out _ _ _ _ _ S56.out S6.out).mono ?_
            rintro e w7 ⟨rfl, n7⟩
            have N7 := hid (N6.out.trans n7)
            clear n7
            go_wp2
            refine wp_loop_rounds 1 ?_
            rw [rounds_succ]
            go_wp2
            exact ⟨⟨i + 1, by simp, by omega, N7.out⟩, by simp [intOf]; omega⟩
          · have hlt2 : ((Y.length : Int)) < (sc : Int) := by omega
            have hne : (sc == Y.length) = false := by simpa using hcap
            go_wp2_with fail
            refine (HEQ.out _ _ _ _ _ S56.out S6.out).mono ?_
            rintro e w7 ⟨rfl, n7⟩
            have N7 := hid (N6.out.trans n7)
            have N67 := hid n7
            clear n7
            clear hcap hne
            go_wp2
            go_loopw [98] (fun x wr2 => ∃ (j : Nat), x = .int .i64 j ∧ j ≤ R.length ∧ New w7 wr2) (fun x _ => R.length - (intOf x).toNat)
            case atStart => exact ⟨0, rfl, by omega, Mod.refl _ _⟩
            case round =>
              obtain ⟨j, rfl, hj, hn⟩ := hrel
              have HN2 := hid hn
              by_cases hjt : j < R.length
              · obtain ⟨g0, g1, g2⟩ := HC2.out (Y.length + j) (by simp; omega)
                have hx : (Y ++ R)[Y.length + j]'(by simp; omega) = R[j] := by simp
                rw [hx] at g0 g1 g2
                have n6w : New w6 wr := N67.out.trans hn
                have g0 := n6w.cellv g0; have g1 := n6w.cellv g1; have g2 := n6w.cellv g2
                rw [show o2 + (Y.length + j) * 3 = o2 + Y.length * 3 + j * 3 by omega] at g0 g1 g2
                obtain ⟨m, f, e1, e2, e3⟩ := HR.out _ (List.getElem_mem hjt)
                have hm : m < A.length := (List.getElem?_eq_some_iff.1 e2).1
                have hmf : A[m] = f := (List.getElem?_eq_some_iff.1 e2).2
                obtain ⟨pa, pc, d0, d1, d2, -, -⟩ := (HC1.out m hm).new (N7.out.trans hn)
                rw [hmf, e3] at d2
                obtain ⟨x, hxx⟩ : ∃ x, x = R[j] := ⟨_, rfl⟩
                rw [← hxx] at g0 g1 g2 e1
                have e1' : x.file = (m : Int) := by rw [e1]; simp
                rw [e1'] at g0
                have hbw : b1 < wr.heap.size := by have := (N7.out.trans hn).size; omega
                have hmI : (m : Int) < (A.length : Int) := by omega
                clear hx hxx e1 e1' e2 e3 hmf n6w hn d0 d1
                go_wp2
                exact ⟨⟨j + 1, by simp, by omega, HN2.out.alloc _⟩, by simp [intOf]; omega⟩
              · go_wp2
                exact ⟨⟨i + 1, by simp, by omega, N7.out.trans HN2.out⟩, by simp [intOf]; omega⟩
        · go_wp2_with fail
          refine (HA.out _ (N4.out.trans HN.out)).mono ?_
          rintro e w9 ⟨rfl, n9⟩
          have N9 := hid ((N4.out.trans HN.out).trans n9)
          clear n9
          go_wp2
          go_ret
          exact ⟨rfl, N9.out⟩
  · have h3 : (ea == 0) = false := by simpa using hea
    have h4 : (ea != 0) = true := by simpa using hea
    clear h ht hA hea
    go_enter Tryd.func5, Tryd.ntmps5
    go_wp2_with fail
    refine HL.out.mono ?_
    rintro e w1 ⟨⟨v, rfl⟩, n1⟩
    have N1 := hid n1
    clear n1
    cases v with
    | false =>
      go_wp2_with fail
      refine (HA.out _ N1.out).mono ?_
      rintro e w9 ⟨rfl, n9⟩
      have N9 := hid (N1.out.trans n9)
      clear n9
      go_wp2
      go_ret
      exact ⟨rfl, N9.out⟩
    | true =>
      go_wp2_with fail
      refine (HAL.out _ N1.out).mono ?_
      rintro e w2 ⟨aa, ac, rfl, f2, n2⟩
      have N2 := hid (N1.out.trans n2)
      clear n2 f2
      go_wp2_with fail
      refine (HA.out _ N2.out).mono ?_
      rintro e w9 ⟨rfl, n9⟩
      have N9 := hid (N2.out.trans n9)
      clear n9
      go_wp2
      go_ret
      exact ⟨rfl, N9.out⟩

set_option maxRecDepth 100000 in
theorem lifted (os : Os) (started : os.Started) (H : Type) (enc : TypeId × Value → H) :
    ReturnsInHanded {} Tryd.checked os 5 .any (fun w args => (Rows.filesTwoWaysSpec.pre enc Tryd.prog Tryd.f5 [] false w args ∧ laidMetH Tryd.prog tables w) ∧ sizedMet enc Tryd.prog Tryd.f5 (OpenSpec.ofChange Rows.filesTwoWaysSpec) false w args)
      (Rows.filesTwoWaysSpec.post enc Tryd.prog Tryd.f5 false true false false) := by
  refine returnsInHanded_of_change_and (C := Tryd.checked) (X := fun w _ => laidMetH Tryd.prog tables w) (fun _ _ _ hh h => h.of_heap hh) own started (by kernel_rfl) Tryd.func5
    (ChangeSpec.witness_shaped (enc := enc) (C := Tryd.checked) (os := os) (X := fun w _ => laidMetH Tryd.prog tables w) false (World.doorLaid Tryd.prog 24 os) #[.slice none 0 0, .int .i64 0] 8 rfl (World.shaped_of_RefB (by kernel_rfl) (by kernel_rfl)) (by kernel_rfl) (by kernel_rfl) (by kernel_rfl) (door_met os _)) ?_
  intro W base args ds gs before hval0 hW _ _ hL _
  have hval : ∀ (j : Nat) t v, Tryd.f5.params[j]? = some t → args[j]? = some v → Value.okWide Tryd.prog W .any base t v := hval0
  have hW' := hW
  obtain ⟨p, q, hA0, hV, rfl, hfz, hnd⟩ := hW
  have hA : DataW.TrodAll enc Tryd.prog W 0 (fun _ => true) true Tryd.f5.params.toList args.toList ds p := hA0
  rw [Tryd.params5] at hA hval
  obtain ⟨v0, vs0, d0, ds0, p0, q0, hargs, rfl, rfl, h0, r0⟩ := trodAll_cons hA
  obtain ⟨v1, vs1, d1, ds1, p1, q1, rfl, rfl, rfl, h1, r1⟩ := trodAll_cons r0
  obtain ⟨rfl, rfl, rfl⟩ := trodAll_nil r1
  obtain rfl : args = #[v0, v1] := by cases args; simp_all
  obtain ⟨rfl, rfl⟩ := trodVars_none hV
  have k0 := h0
  have k1 := h1
  have lt0 : ∀ x ∈ p0, x.block < W.heap.size := by obtain ⟨m, hm⟩ := k0; exact DataW.trod_lt m _ _ _ hm
  have lt1 : ∀ x ∈ p1, x.block < W.heap.size := by obtain ⟨m, hm⟩ := k1; exact DataW.trod_lt m _ _ _ hm
  obtain ⟨a_l, len_l, c_l, rfl⟩ := okWide_slice Tryd.underlying22 (hval 0 22 v0 rfl rfl)
  obtain ⟨l, hlen_l, h_l⟩ : ∃ l, l.length = len_l ∧ FilesAt W a_l c_l l := by
    obtain ⟨fuel, hf⟩ := h0
    obtain ⟨a', c', l, hcs, hfa⟩ := open_files hf
    simp [Value.cells] at hcs
    obtain ⟨rfl, rfl, rfl⟩ := hcs
    exact ⟨l, rfl, hfa⟩
  subst hlen_l
  obtain ⟨n, rfl, -, -, w_n⟩ := open_int Tryd.underlying3 (hval 1 3 v1 rfl rfl) h1
  obtain ⟨lo_n, hi_n⟩ := wf_bounds w_n
  have ht := tab_of hL
  clear hA0 hval0
  refine (law_any a_l c_l l n W h_l ht lo_n hi_n).mono fun e W' ⟨he, hn⟩ => ?_
  subst he
  have bel : Below W.heap.size W W' := hn.below _ (Nat.le_refl _) (fun _ _ x => x)
  exact ⟨_, rfl, _, _, _, [], _, [], hW', trodAll_mk1 (shut_bool Tryd.underlying4 _), (trodAll_cons_mk (Below.trod laidOut (by kernel_rfl) (of_decide_eq_true (by kernel_rfl)) k0 bel lt0) (trodAll_cons_mk (Below.trod laidOut (by kernel_rfl) (of_decide_eq_true (by kernel_rfl)) k1 bel lt1) trodAll_mk0)), rfl, bel.frame _, fun h => by cases h⟩

theorem over : Rows.FilesTwoWaysSaid :=
  OpenClaim.holds_of_wide 5 Tryd.f5 rfl rfl rfl rfl rfl rfl rfl ⟨rfl, rfl, rfl, rfl, rfl⟩ rfl rfl rfl rfl rfl (by kernel_rfl) Tryd.func5 (by kernel_rfl)
    (of_decide_eq_true (by kernel_rfl)) (by unfold Func.isWrapper; first | (rw [if_pos (by decide +kernel)]; kernel_rfl) | (rw [if_neg (by decide +kernel)]; exact ⟨rfl, rfl⟩))
    (fun os started H enc _ => lifted os started H enc)

theorem proved : Rows.FilesTwoWaysCardSaid :=
  Claim7.holds_tied_plain_at .later [] [.data, .data, .data] true Rows.filesTwoWaysCard.stood.harness true
    over (fun _ h => by cases h) (by kernel_rfl) (fun _ h => by cases h) filesTwoWays_row_tie rfl ⟨rfl, rfl⟩ (by kernel_rfl) rfl
    (fun f fn hf hfn => by
      obtain rfl : f = 5 := Option.some.inj ((show Tryd.prog.funcNamed "covey/coveylaw05.FilesTwoWays" = some 5 by kernel_rfl).symm.trans hf) |>.symm
      obtain rfl : fn = Tryd.f5 := (Option.some.inj (Tryd.func5.symm.trans hfn)).symm
      exact ⟨by kernel_rfl, fun j t ht => by
        rw [Tryd.params5] at ht
        have hm : t ∈ [22, 3] := by simpa using Array.mem_of_getElem? ht
        have hall : ([22, 3].all fun u => !Tryd.prog.wantsStandIn u) = true := by kernel_rfl
        exact (show Tryd.prog.wantsStandIn t = false by simpa using List.all_eq_true.1 hall t hm)⟩)
    (by kernel_rfl)
#print axioms proved
end Go.Proofs.YtnccfikimmolgaaDoor.filesTwoWays
