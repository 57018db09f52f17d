/-
  FilesAligned returns true, for every input, its argument as it was; the three tables of the library tied to the program's text. No condition but the row's own ('laid').
-/
import Derived.Test.YtnccfikimmolgaaDoorLaw5
import Derived.Test.YtnccfikimmolgaaDoorRg
import Derived.Test.YtnccfikimmolgaaDoorTie
import Derived.Test.YtnccfikimmolgaaDoorCards
import Derived.SevenTiedAt
namespace Go.Proofs.YtnccfikimmolgaaDoor.filesAligned
set_option linter.unusedSimpArgs false
set_option linter.unusedVariables false
open Go.ChangeShapes Go.WideShapes Go.ChangeAt Go.RowKit Go.Deep

theorem vld_fits {l : List FileV} (h : Vld l) : Fits l := fun f hf => by
  have := h.good f hf
  obtain ⟨-, a, b, -⟩ := this
  omega
/-- P5.4: what Align answers has the bare list, and is aligned. -/
theorem again {l A : List FileV} {piece : Int} (hf : Fits l) (h : alignOf l piece = (A, 0)) : bareOf A = bareOf l ∧ (bareOf l).2 = 0 ∧ alignOf A piece = (A, 0) ∧ isAlOf A piece = (true, 0) := by
  unfold alignOf at h
  cases hv : validOf l with
  | false => simp [hv] at h
  | true =>
    cases hp : pieceOf piece with
    | false => simp [hv, hp] at h
    | true =>
      simp only [hv, hp, if_true] at h
      split at h
      · simp at h
      · next hb =>
        simp at h
        have hvl := (valid_iff hf).1 hv
        have hp2 := piece_range hp
        have hA : padOf l piece = A := h
        have hva : Vld A := by rw [← hA]; exact padded_valid hvl hp2 (by unfold padOf at hb; omega) (by unfold padOf at hb; omega)
        have hbare : bareL A = bareL l := by rw [← hA]; exact padded_bare piece (bareL l) 0 bare_pad
        have hpad : padOf A piece = A := by unfold padOf; rw [hbare]; exact hA
        have hv2 := (valid_iff (vld_fits hva)).2 hva
        have hb2 : ¬ (40 < A.length ∨ 65536 < sumOf A) := by rw [← hA]; exact hb
        refine ⟨?_, ?_, ?_, ?_⟩
        · simp only [bareOf, hv, hv2, if_true, hbare]
        · simp only [bareOf, hv, if_true]
        · simp only [alignOf, hv2, hp, if_true, hpad, if_neg hb2]
        · simp only [isAlOf, hv2, hp, if_true, hpad, sameB_self]
set_option maxRecDepth 100000 in
set_option maxHeartbeats 4000000 in
theorem law_any (a : Option Addr) (c : Nat) (l : List FileV) (n : Int) (w : World) (h : FilesAt w a c l) (ht : Tab w) (h0 : -9223372036854775808 ≤ n) (h1 : n ≤ 9223372036854775807) :
    Calls Tryd.prog 4 #[.slice a l.length c, .int .i64 n] w fun e w' => e = .returned (.bool true) ∧ New w w' := by
  have HL := hid (light_any a c l w h)
  have HAL := hid (fun a c l W (h : FilesAt W a c l) (n' : New w W) => Align_any a c l n W h (ht.new n') h0 h1)
  have HRA := hid (fun W (n' : New w W) => rAlign_any a c l n W (h.new n') h0 h1)
  have HIS := hid (fun a c l W (h : FilesAt W a c l) (n' : New w W) => Aligned_any a c l n W h (ht.new n') h0 h1)
  have HRI := hid (fun W (n' : New w W) => rAligned_any a c l n W (h.new n') h0 h1)
  have HB := hid (fun a c l W (h : FilesAt W a c l) (n' : New w W) => Bare_any a c l W h (ht.new n'))
  have HRB := hid (fun W (n' : New w W) => rBare_any a c l W (h.new n'))
  have HS := hid (fun a b c d l W (h : FilesAt W a c l) (k : FilesAt W b d l) => rSame_any a b c d l l W h k)
  have HA := hid (fun W (n' : New w W) => awake_any W (ht.new n'))
  have HF := hid h
  have HFI := hid h.fits
  obtain ⟨A, ea, hA⟩ : ∃ A ea, alignOf l n = (A, ea) := ⟨_, _, rfl⟩
  obtain ⟨ib, ie, hI⟩ : ∃ ib ie, isAlOf l n = (ib, ie) := ⟨_, _, rfl⟩
  obtain ⟨B, eb, hB⟩ : ∃ B eb, bareOf l = (B, eb) := ⟨_, _, rfl⟩
  have HAA := hid hA; have HBB := hid hB; have HII := hid hI
  clear h ht
  go_enter Tryd.func4, Tryd.ntmps4
  go_wp2_with fail
  refine HL.out.mono ?_
  rintro e w1 ⟨⟨v, rfl⟩, n1⟩
  have N1 := hid n1
  clear n1
  cases v with
  | false =>
    clear hA hI hB
    go_wp2_with fail
    refine (HA.out _ N1.out).mono ?_
    rintro e w2 ⟨rfl, n2⟩
    have N2 := hid n2
    clear n2
    go_wp2
    go_ret
    exact ⟨rfl, N1.out.trans N2.out⟩
  | true =>
    go_wp2_with fail
    refine (HAL.out _ _ _ _ (HF.out.new N1.out) N1.out).mono ?_
    rw [hA]
    rintro e w2 ⟨aa, ac, rfl, f2, n2⟩
    have N2 := hid (N1.out.trans n2); have F2 := hid f2
    clear n2 f2
    go_wp2_with fail
    refine (HRA.out _ N2.out).mono ?_
    rw [hA]
    rintro e w3 ⟨ra, rc, rfl, f3, n3⟩
    have N3 := hid (N2.out.trans n3); have F3 := hid f3; have P3 := hid n3
    clear n3 f3 hA
    go_wp2_with fail
    refine (HIS.out _ _ _ _ (HF.out.new N3.out) N3.out).mono ?_
    rw [hI]
    rintro e w4 ⟨rfl, n4⟩
    have N4 := hid (N3.out.trans n4); have P4 := hid (P3.out.trans n4); have Q4 := hid n4
    clear n4
    go_wp2_with fail
    refine (HRI.out _ N4.out).mono ?_
    rw [hI]
    rintro e w5 ⟨rfl, n5⟩
    have N5 := hid (N4.out.trans n5); have P5 := hid (P4.out.trans n5); have Q5 := hid (Q4.out.trans n5)
    clear n5 hI
    go_wp2_with fail
    refine (HB.out _ _ _ _ (HF.out.new N5.out) N5.out).mono ?_
    rw [hB]
    rintro e w6 ⟨ba, bc, rfl, f6, n6⟩
    have N6 := hid (N5.out.trans n6); have P6 := hid (P5.out.trans n6); have Q6 := hid (Q5.out.trans n6); have F6 := hid f6
    clear n6 f6
    go_wp2_with fail
    refine (HRB.out _ N6.out).mono ?_
    rw [hB]
    rintro e w7 ⟨da, dc, rfl, f7, n7⟩
    have N7 := hid (N6.out.trans n7); have G2 := hid (F2.out.new (P6.out.trans n7)); have G3 := hid (F3.out.new (Q6.out.trans n7)); have G6 := hid (F6.out.new n7); have G7 := hid f7
    clear n7 f7 hB F2 F3 F6 P3 P4 P5 P6 Q4 Q5 Q6
    go_wp2_with fail
    refine (HS.out _ _ _ _ _ _ G2.out G3.out).mono ?_
    rw [sameB_self]
    rintro e w8 ⟨rfl, n8⟩
    have N8 := hid (N7.out.trans n8); have K2 := hid (G2.out.new n8); have K6 := hid (G6.out.new n8); have K7 := hid (G7.out.new n8)
    clear n8 G2 G3 G6 G7
    go_wp2_with fail
    refine (HS.out _ _ _ _ _ _ K6.out K7.out).mono ?_
    rw [sameB_self]
    rintro e w9 ⟨rfl, n9⟩
    have N9 := hid (N8.out.trans n9); have J2 := hid (K2.out.new n9); have J6 := hid (K6.out.new n9)
    clear n9 K2 K6 K7
    cases hz : (ea == 0) with
    | false =>
      go_wp2_with fail
      refine (HA.out _ N9.out).mono ?_
      rintro e w10 ⟨rfl, n10⟩
      have N10 := hid (N9.out.trans n10)
      clear n10
      go_wp2
      go_ret
      exact ⟨rfl, N10.out⟩
    | true =>
      have hz2 : ea = 0 := by simpa using hz
      subst hz2
      obtain ⟨hb1, hb2, hb3, hb4⟩ := again HFI.out HAA.out
      rw [HBB.out] at hb1 hb2
      have hb2' : eb = 0 := hb2
      subst hb2'
      have HB1 := hid hb1; have HB3 := hid hb3; have HB4 := hid hb4
      clear hb1 hb2 hb3 hb4
      go_wp2_with fail
      refine (HB.out _ _ _ _ J2.out N9.out).mono ?_
      rw [HB1.out]
      rintro e w10 ⟨xa, xc, rfl, f10, n10⟩
      have N10 := hid (N9.out.trans n10); have X10 := hid f10; have J2a := hid (J2.out.new n10); have J6a := hid (J6.out.new n10)
      clear n10 f10 J2 J6
      go_wp2_with fail
      refine (HAL.out _ _ _ _ J2a.out N10.out).mono ?_
      rw [HB3.out]
      rintro e w11 ⟨ya, yc, rfl, f11, n11⟩
      have N11 := hid (N10.out.trans n11); have Y11 := hid f11; have X11 := hid (X10.out.new n11); have J2b := hid (J2a.out.new n11); have J6b := hid (J6a.out.new n11)
      clear n11 f11 J2a J6a X10
      go_wp2_with fail
      refine (HIS.out _ _ _ _ J2b.out N11.out).mono ?_
      rw [HB4.out]
      rintro e w12 ⟨rfl, n12⟩
      have N12 := hid (N11.out.trans n12); have Y12 := hid (Y11.out.new n12); have X12 := hid (X11.out.new n12); have J2c := hid (J2b.out.new n12); have J6c := hid (J6b.out.new n12)
      clear n12 J2b J6b X11 Y11
      go_wp2_with fail
      refine (HS.out _ _ _ _ _ _ X12.out J6c.out).mono ?_
      rw [sameB_self]
      rintro e w13 ⟨rfl, n13⟩
      have N13 := hid (N12.out.trans n13); have Y13 := hid (Y12.out.new n13); have J2d := hid (J2c.out.new n13)
      clear n13 J2c J6c X12 Y12
      go_wp2_with fail
      refine (HS.out _ _ _ _ _ _ Y13.out J2d.out).mono ?_
      rw [sameB_self]
      rintro e w14 ⟨rfl, n14⟩
      have N14 := hid (N13.out.trans n14)
      clear n14 Y13 J2d
      go_wp2_with fail
      refine (HA.out _ N14.out).mono ?_
      rintro e w15 ⟨rfl, n15⟩
      have N15 := hid (N14.out.trans n15)
      clear n15
      go_wp2
      go_ret
      exact ⟨rfl, N15.out⟩

set_option maxRecDepth 100000 in
theorem lifted (os : Os) (started : os.Started) (H : Type) (enc : TypeId × Value → H) :
    ReturnsInHanded {} Tryd.checked os 4 .any (fun w args => (Rows.filesAlignedSpec.pre enc Tryd.prog Tryd.f4 [] false w args ∧ laidMetH Tryd.prog tables w) ∧ sizedMet enc Tryd.prog Tryd.f4 (OpenSpec.ofChange Rows.filesAlignedSpec) false w args)
      (Rows.filesAlignedSpec.post enc Tryd.prog Tryd.f4 false true false false) := by
  refine returnsInHanded_of_change_and (C := Tryd.checked) (X := fun w _ => laidMetH Tryd.prog tables w) (fun _ _ _ hh h => h.of_heap hh) own started (by kernel_rfl) Tryd.func4
    (ChangeSpec.witness_shaped (enc := enc) (C := Tryd.checked) (os := os) (X := fun w _ => laidMetH Tryd.prog tables w) false (World.doorLaid Tryd.prog 24 os) #[.slice none 0 0, .int .i64 0] 8 rfl (World.shaped_of_RefB (by kernel_rfl) (by kernel_rfl)) (by kernel_rfl) (by kernel_rfl) (by kernel_rfl) (door_met os _)) ?_
  intro W base args ds gs before hval0 hW _ _ hL _
  have hval : ∀ (j : Nat) t v, Tryd.f4.params[j]? = some t → args[j]? = some v → Value.okWide Tryd.prog W .any base t v := hval0
  have hW' := hW
  obtain ⟨p, q, hA0, hV, rfl, hfz, hnd⟩ := hW
  have hA : DataW.TrodAll enc Tryd.prog W 0 (fun _ => true) true Tryd.f4.params.toList args.toList ds p := hA0
  rw [Tryd.params4] at hA hval
  obtain ⟨v0, vs0, d0, ds0, p0, q0, hargs, rfl, rfl, h0, r0⟩ := trodAll_cons hA
  obtain ⟨v1, vs1, d1, ds1, p1, q1, rfl, rfl, rfl, h1, r1⟩ := trodAll_cons r0
  obtain ⟨rfl, rfl, rfl⟩ := trodAll_nil r1
  obtain rfl : args = #[v0, v1] := by cases args; simp_all
  obtain ⟨rfl, rfl⟩ := trodVars_none hV
  have k0 := h0; have k1 := h1
  have lt0 : ∀ x ∈ p0, x.block < W.heap.size := by obtain ⟨m, hm⟩ := k0; exact DataW.trod_lt m _ _ _ hm
  have lt1 : ∀ x ∈ p1, x.block < W.heap.size := by obtain ⟨m, hm⟩ := k1; exact DataW.trod_lt m _ _ _ hm
  obtain ⟨n, rfl, -, -, w1⟩ := open_int Tryd.underlying3 (hval 1 3 v1 rfl rfl) h1
  obtain ⟨a, len, cap, rfl⟩ := okWide_slice Tryd.underlying22 (hval 0 22 v0 rfl rfl)
  obtain ⟨l, hlen, hfs⟩ : ∃ l, l.length = len ∧ FilesAt W a cap l := by
    obtain ⟨fuel, hf⟩ := h0
    obtain ⟨a', c', l, hcs, hfa⟩ := open_files hf
    simp [Value.cells] at hcs
    obtain ⟨rfl, rfl, rfl⟩ := hcs
    exact ⟨l, rfl, hfa⟩
  subst hlen
  obtain ⟨b0, b1⟩ := wf_bounds w1
  have ht := tab_of hL
  clear hA0 hval0
  refine (law_any a cap l n W hfs ht b0 b1).mono fun e W' ⟨he, hn⟩ => ?_
  subst he
  have bel : Below W.heap.size W W' := hn.below _ (Nat.le_refl _) (fun _ _ x => x)
  exact ⟨_, rfl, _, _, _, [], _, [], hW', trodAll_mk1 (shut_bool Tryd.underlying4 _), (trodAll_cons_mk (Below.trod laidOut (by kernel_rfl) (of_decide_eq_true (by kernel_rfl)) k0 bel lt0) (trodAll_cons_mk (Below.trod laidOut (by kernel_rfl) (of_decide_eq_true (by kernel_rfl)) k1 bel lt1) trodAll_mk0)), rfl, bel.frame _, fun h => by cases h⟩

theorem over : Rows.FilesAlignedSaid :=
  OpenClaim.holds_of_wide 4 Tryd.f4 rfl rfl rfl rfl rfl rfl rfl ⟨rfl, rfl, rfl, rfl, rfl⟩ rfl rfl rfl rfl rfl (by kernel_rfl) Tryd.func4 (by kernel_rfl)
    (of_decide_eq_true (by kernel_rfl)) (by unfold Func.isWrapper; first | (rw [if_pos (by decide +kernel)]; kernel_rfl) | (rw [if_neg (by decide +kernel)]; exact ⟨rfl, rfl⟩))
    (fun os started H enc _ => lifted os started H enc)

theorem proved : Rows.FilesAlignedCardSaid :=
  Claim7.holds_tied_plain_at .later [] [.data, .data, .data] true Rows.filesAlignedCard.stood.harness true
    over (fun _ h => by cases h) (by kernel_rfl) (fun _ h => by cases h) filesAligned_row_tie rfl ⟨rfl, rfl⟩ (by kernel_rfl) rfl
    (fun f fn hf hfn => by
      obtain rfl : f = 4 := Option.some.inj ((show Tryd.prog.funcNamed "covey/coveylaw05.FilesAligned" = some 4 by kernel_rfl).symm.trans hf) |>.symm
      obtain rfl : fn = Tryd.f4 := (Option.some.inj (Tryd.func4.symm.trans hfn)).symm
      exact ⟨by kernel_rfl, fun j t ht => by
        rw [Tryd.params4] at ht
        have hm : t ∈ [22, 3] := by simpa using Array.mem_of_getElem? ht
        have hall : ([22, 3].all fun u => !Tryd.prog.wantsStandIn u) = true := by kernel_rfl
        exact (show Tryd.prog.wantsStandIn t = false by simpa using List.all_eq_true.1 hall t hm)⟩)
    (by kernel_rfl)
#print axioms proved
end Go.Proofs.YtnccfikimmolgaaDoor.filesAligned
