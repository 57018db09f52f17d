/-
  FilesWrong returns true, for every input, its argument as it was; the three tables of the library tied to the program's text. No condition but the row's own ('laid').
-/
import Derived.Test.YtnccfikimmolgaaDoorLaw5
import Derived.Test.YtnccfikimmolgaaDoorTie
import Derived.Test.YtnccfikimmolgaaDoorCards
import Derived.SevenTiedAt
namespace Go.Proofs.YtnccfikimmolgaaDoor.filesWrong
set_option linter.unusedSimpArgs false
set_option linter.unusedVariables false
open Go.ChangeShapes Go.WideShapes Go.ChangeAt Go.RowKit Go.Deep

set_option maxRecDepth 100000 in
set_option maxHeartbeats 2000000 in
theorem law_any (a : Option Addr) (c : Nat) (l : List FileV) (n : Int) (w : World) (h : FilesAt w a c l) (ht : Tab w) (h0 : -9223372036854775808 ≤ n) (h1 : n ≤ 9223372036854775807) :
    Calls Tryd.prog 3 #[.slice a l.length c, .int .i64 n] w fun e w' => e = .returned (.bool true) ∧ New w w' := by
  have HL := hid (light_any a c l w h)
  have HW := hid (fun W (n : New w W) => wrong_any a c l W (h.new n) (ht.new n))
  have HRW := hid (fun W (n : New w W) => rwrong_any a c l W (h.new n))
  have HT := hid (fun W (n : New w W) => Total_any a c l W (h.new n) (ht.new n))
  have HRT := hid (fun W (n : New w W) => rTotal_any a c l W (h.new n) (ht.new n))
  have HV := hid (fun W (n : New w W) => valid_any a c l W (h.new n) (ht.new n))
  have HRV := hid (fun W (n : New w W) => rvalid_any a c l W (h.new n))
  have HP := hid (fun W => piece_any n W h0 h1)
  have HRP := hid (fun W => rpiece_any n W h0 h1)
  have HA := hid (fun W (n : New w W) => awake_any W (ht.new n))
  clear h ht
  go_enter Tryd.func3, Tryd.ntmps3
  go_wp2_with fail
  refine HL.out.mono ?_
  rintro e w1 ⟨⟨v, rfl⟩, n1⟩
  have N1 := hid n1
  clear n1
  cases v with
  | false =>
    go_wp2_with fail
    refine (HA.out _ N1.out).mono ?_
    rintro e w2 ⟨rfl, n2⟩
    have N2 := hid n2
    clear n2
    go_wp2
    go_ret
    exact ⟨rfl, N1.out.trans N2.out⟩
  | true =>
    go_wp2_with fail
    refine (HW.out _ N1.out).mono ?_
    rintro e w2 ⟨rfl, n2⟩
    have N2 := hid (N1.out.trans n2)
    clear n2
    go_wp2_with fail
    refine (HRW.out _ N2.out).mono ?_
    rintro e w3 ⟨rfl, n3⟩
    have N3 := hid (N2.out.trans n3)
    clear n3
    go_wp2_with fail
    refine (HT.out _ N3.out).mono ?_
    rintro e w4 ⟨rfl, n4⟩
    have N4 := hid (N3.out.trans n4)
    clear n4
    go_wp2_with fail
    refine (HRT.out _ N4.out).mono ?_
    rintro e w5 ⟨rfl, n5⟩
    have N5 := hid (N4.out.trans n5)
    clear n5
    go_wp2_with fail
    refine (HV.out _ N5.out).mono ?_
    rintro e w6 ⟨rfl, n6⟩
    have N6 := hid (N5.out.trans n6)
    clear n6
    go_wp2_with fail
    refine (HRV.out _ N6.out).mono ?_
    rintro e w7 ⟨rfl, n7⟩
    have N7 := hid (N6.out.trans n7)
    clear n7
    go_wp2_with fail
    refine (HP.out _).mono ?_
    rintro e w8 ⟨rfl, rfl⟩
    go_wp2_with fail
    refine (HRP.out _).mono ?_
    rintro e w9 ⟨rfl, rfl⟩
    go_wp2_with fail
    refine (HA.out _ N7.out).mono ?_
    rintro e w10 ⟨rfl, n10⟩
    have N10 := hid (N7.out.trans n10)
    clear n10
    go_wp2
    go_ret
    exact ⟨rfl, N10.out⟩

set_option maxRecDepth 100000 in
theorem lifted (os : Os) (started : os.Started) (H : Type) (enc : TypeId × Value → H) :
    ReturnsInHanded {} Tryd.checked os 3 .any (fun w args => (Rows.filesWrongSpec.pre enc Tryd.prog Tryd.f3 [] false w args ∧ laidMetH Tryd.prog tables w) ∧ sizedMet enc Tryd.prog Tryd.f3 (OpenSpec.ofChange Rows.filesWrongSpec) false w args)
      (Rows.filesWrongSpec.post enc Tryd.prog Tryd.f3 false true false false) := by
  refine returnsInHanded_of_change_and (C := Tryd.checked) (X := fun w _ => laidMetH Tryd.prog tables w) (fun _ _ _ hh h => h.of_heap hh) own started (by kernel_rfl) Tryd.func3
    (ChangeSpec.witness_shaped (enc := enc) (C := Tryd.checked) (os := os) (X := fun w _ => laidMetH Tryd.prog tables w) false (World.doorLaid Tryd.prog 24 os) #[.slice none 0 0, .int .i64 0] 8 rfl (World.shaped_of_RefB (by kernel_rfl) (by kernel_rfl)) (by kernel_rfl) (by kernel_rfl) (by kernel_rfl) (door_met os _)) ?_
  intro W base args ds gs before hval0 hW _ _ hL _
  have hval : ∀ (j : Nat) t v, Tryd.f3.params[j]? = some t → args[j]? = some v → Value.okWide Tryd.prog W .any base t v := hval0
  have hW' := hW
  obtain ⟨p, q, hA0, hV, rfl, hfz, hnd⟩ := hW
  have hA : DataW.TrodAll enc Tryd.prog W 0 (fun _ => true) true Tryd.f3.params.toList args.toList ds p := hA0
  rw [Tryd.params3] at hA hval
  obtain ⟨v0, vs0, d0, ds0, p0, q0, hargs, rfl, rfl, h0, r0⟩ := trodAll_cons hA
  obtain ⟨v1, vs1, d1, ds1, p1, q1, rfl, rfl, rfl, h1, r1⟩ := trodAll_cons r0
  obtain ⟨rfl, rfl, rfl⟩ := trodAll_nil r1
  obtain rfl : args = #[v0, v1] := by cases args; simp_all
  obtain ⟨rfl, rfl⟩ := trodVars_none hV
  have k0 := h0; have k1 := h1
  have lt0 : ∀ x ∈ p0, x.block < W.heap.size := by obtain ⟨m, hm⟩ := k0; exact DataW.trod_lt m _ _ _ hm
  have lt1 : ∀ x ∈ p1, x.block < W.heap.size := by obtain ⟨m, hm⟩ := k1; exact DataW.trod_lt m _ _ _ hm
  obtain ⟨n, rfl, -, -, w1⟩ := open_int Tryd.underlying3 (hval 1 3 v1 rfl rfl) h1
  obtain ⟨a, len, cap, rfl⟩ := okWide_slice Tryd.underlying22 (hval 0 22 v0 rfl rfl)
  obtain ⟨l, hlen, hfs⟩ : ∃ l, l.length = len ∧ FilesAt W a cap l := by
    obtain ⟨fuel, hf⟩ := h0
    obtain ⟨a', c', l, hcs, hfa⟩ := open_files hf
    simp [Value.cells] at hcs
    obtain ⟨rfl, rfl, rfl⟩ := hcs
    exact ⟨l, rfl, hfa⟩
  subst hlen
  obtain ⟨b0, b1⟩ := wf_bounds w1
  have ht := tab_of hL
  clear hA0 hval0
  refine (law_any a cap l n W hfs ht b0 b1).mono fun e W' ⟨he, hn⟩ => ?_
  subst he
  have bel : Below W.heap.size W W' := hn.below _ (Nat.le_refl _) (fun _ _ x => x)
  exact ⟨_, rfl, _, _, _, [], _, [], hW', trodAll_mk1 (shut_bool Tryd.underlying4 _), (trodAll_cons_mk (Below.trod laidOut (by kernel_rfl) (of_decide_eq_true (by kernel_rfl)) k0 bel lt0) (trodAll_cons_mk (Below.trod laidOut (by kernel_rfl) (of_decide_eq_true (by kernel_rfl)) k1 bel lt1) trodAll_mk0)), rfl, bel.frame _, fun h => by cases h⟩

theorem over : Rows.FilesWrongSaid :=
  OpenClaim.holds_of_wide 3 Tryd.f3 rfl rfl rfl rfl rfl rfl rfl ⟨rfl, rfl, rfl, rfl, rfl⟩ rfl rfl rfl rfl rfl (by kernel_rfl) Tryd.func3 (by kernel_rfl)
    (of_decide_eq_true (by kernel_rfl)) (by unfold Func.isWrapper; first | (rw [if_pos (by decide +kernel)]; kernel_rfl) | (rw [if_neg (by decide +kernel)]; exact ⟨rfl, rfl⟩))
    (fun os started H enc _ => lifted os started H enc)

theorem proved : Rows.FilesWrongCardSaid :=
  Claim7.holds_tied_plain_at .later [] [.data, .data, .data] true Rows.filesWrongCard.stood.harness true
    over (fun _ h => by cases h) (by kernel_rfl) (fun _ h => by cases h) filesWrong_row_tie rfl ⟨rfl, rfl⟩ (by kernel_rfl) rfl
    (fun f fn hf hfn => by
      obtain rfl : f = 3 := Option.some.inj ((show Tryd.prog.funcNamed "covey/coveylaw05.FilesWrong" = some 3 by kernel_rfl).symm.trans hf) |>.symm
      obtain rfl : fn = Tryd.f3 := (Option.some.inj (Tryd.func3.symm.trans hfn)).symm
      exact ⟨by kernel_rfl, fun j t ht => by
        rw [Tryd.params3] at ht
        have hm : t ∈ [22, 3] := by simpa using Array.mem_of_getElem? ht
        have hall : ([22, 3].all fun u => !Tryd.prog.wantsStandIn u) = true := by kernel_rfl
        exact (show Tryd.prog.wantsStandIn t = false by simpa using List.all_eq_true.1 hall t hm)⟩)
    (by kernel_rfl)
#print axioms proved
end Go.Proofs.YtnccfikimmolgaaDoor.filesWrong
