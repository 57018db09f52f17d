/-
  ProbeFinds returns true, for every input.
-/
import Derived.Test.YtakglmdpaaiclaaSa
import Derived.Test.YtakglmdpaaiclaaSb
import Derived.Test.YtakglmdpaaiclaaOpen
import Derived.Deep.Grids
namespace Go.Proofs.Ytakglmdpaaiclaa.probeFinds
set_option linter.unusedSimpArgs false
set_option linter.unusedVariables false
open Go.ChangeShapes Go.WideShapes Go.ChangeAt Go.RowKit Go.Deep

theorem own : ownKnob Try.prog.godebug = none := by kernel_rfl
theorem laidOut : laidOutB Try.prog = true := by kernel_rfl


set_option maxRecDepth 100000 in
set_option maxHeartbeats 2000000 in
theorem finds_wrong (low high bound : Int) (ca : Option Addr) (cn cc : Nat) (w : World) (hl : cn ≤ 300) (hr : right low high = false) :
    Calls Try.prog 3 #[.int .i64 low, .int .i64 high, .int .i64 bound, .slice ca cn cc] w fun e w' => e = .returned (.bool true) ∧ New w w' := by
  have HRT := hid (fun w => hr ▸ right_any low high w)
  have HR := hid hr
  clear hr
  have tok : True := trivial
  go_enter Try.func3, Try.ntmps3
  go_wp2_with (first | (go_at_call 7; have tk := tok; clear tok; refine (find_bad1 _ _ _ _ _ _ _ HR.out).mono ?_; rintro e w1 ⟨rfl, n1⟩; have N1 := hid n1; clear n1) | (go_at_call 7; refine (find_bad1 _ _ _ _ _ _ _ HR.out).mono ?_; rintro e w2 ⟨rfl, n2⟩; have N2 := hid n2; clear n2) | (go_at_call 8; refine (steps_bad _ _ _ HR.out).mono ?_; rintro e w3 ⟨rfl, n3⟩; have N3 := hid n3; clear n3) | (go_at_call 9; refine (rfind_bad _ _ _ _ _ _ _ (.inl HR.out)).mono ?_; rintro e w4 ⟨rfl, n4⟩; have N4 := hid n4; clear n4) | (go_at_call 10; refine (rsteps_bad _ _ _ HR.out).mono ?_; rintro e w5 ⟨rfl, n5⟩; have N5 := hid n5; clear n5) | (go_at_call 11; refine (HRT.out _).mono ?_; rintro e w6 ⟨rfl, rfl⟩) | (go_at_call 6; refine (awake_any _).mono ?_; rintro e w7 ⟨rfl, hn⟩; have HA := hid hn; clear hn))
  go_ret
  exact ⟨rfl, Mod.trans N1.out (Mod.trans N2.out (Mod.trans N3.out (Mod.trans N4.out (Mod.trans N5.out HA.out))))⟩

set_option maxRecDepth 100000 in
set_option maxHeartbeats 2000000 in
theorem finds_out (low high bound : Int) (ca : Option Addr) (cn cc : Nat) (w : World) (hl : cn ≤ 300) (hr : right low high = true) (hb : bound < 0 ∨ 10000 < bound) :
    Calls Try.prog 3 #[.int .i64 low, .int .i64 high, .int .i64 bound, .slice ca cn cc] w fun e w' => e = .returned (.bool true) ∧ New w w' := by
  have HRT := hid (fun w => hr ▸ right_any low high w)
  have HR := hid hr
  have HB := hid hb
  obtain ⟨x, hx⟩ : ∃ x, need (high - low).toNat = x := ⟨_, rfl⟩
  have HS := hid (fun w => hx ▸ steps_any low high w hr)
  have HT := hid (fun w => hx ▸ rsteps_any low high w hr)
  clear hx hr
  by_cases h1 : bound < 0
  · clear hb
    have tok : True := trivial
    go_enter Try.func3, Try.ntmps3
    go_wp2_with (first | (go_at_call 7; have tk := tok; clear tok; refine (find_bad2 _ _ _ _ _ _ _ HR.out HB.out).mono ?_; rintro e w1 ⟨rfl, n1⟩; have N1 := hid n1; clear n1) | (go_at_call 7; refine (find_bad2 _ _ _ _ _ _ _ HR.out HB.out).mono ?_; rintro e w2 ⟨rfl, n2⟩; have N2 := hid n2; clear n2) | (go_at_call 8; refine (HS.out _).mono ?_; rintro e w3 ⟨rfl, n3⟩; have N3 := hid n3; clear n3) | (go_at_call 9; refine (rfind_bad _ _ _ _ _ _ _ (.inr HB.out)).mono ?_; rintro e w4 ⟨rfl, n4⟩; have N4 := hid n4; clear n4) | (go_at_call 10; refine (HT.out _).mono ?_; rintro e w5 ⟨rfl, n5⟩; have N5 := hid n5; clear n5) | (go_at_call 11; refine (HRT.out _).mono ?_; rintro e w6 ⟨rfl, rfl⟩) | (go_at_call 6; refine (awake_any _).mono ?_; rintro e w7 ⟨rfl, hn⟩; have HA := hid hn; clear hn))
    go_ret
    exact ⟨rfl, Mod.trans N1.out (Mod.trans N2.out (Mod.trans N3.out (Mod.trans N4.out (Mod.trans N5.out HA.out))))⟩
  · have h2 : 10000 < bound := by omega
    clear hb
    have tok : True := trivial
    go_enter Try.func3, Try.ntmps3
    go_wp2_with (first | (go_at_call 7; have tk := tok; clear tok; refine (find_bad2 _ _ _ _ _ _ _ HR.out HB.out).mono ?_; rintro e w1 ⟨rfl, n1⟩; have N1 := hid n1; clear n1) | (go_at_call 7; refine (find_bad2 _ _ _ _ _ _ _ HR.out HB.out).mono ?_; rintro e w2 ⟨rfl, n2⟩; have N2 := hid n2; clear n2) | (go_at_call 8; refine (HS.out _).mono ?_; rintro e w3 ⟨rfl, n3⟩; have N3 := hid n3; clear n3) | (go_at_call 9; refine (rfind_bad _ _ _ _ _ _ _ (.inr HB.out)).mono ?_; rintro e w4 ⟨rfl, n4⟩; have N4 := hid n4; clear n4) | (go_at_call 10; refine (HT.out _).mono ?_; rintro e w5 ⟨rfl, n5⟩; have N5 := hid n5; clear n5) | (go_at_call 11; refine (HRT.out _).mono ?_; rintro e w6 ⟨rfl, rfl⟩) | (go_at_call 6; refine (awake_any _).mono ?_; rintro e w7 ⟨rfl, hn⟩; have HA := hid hn; clear hn))
    go_ret
    exact ⟨rfl, Mod.trans N1.out (Mod.trans N2.out (Mod.trans N3.out (Mod.trans N4.out (Mod.trans N5.out HA.out))))⟩


set_option maxRecDepth 100000 in
set_option maxHeartbeats 4000000 in
theorem finds_any (low high bound : Int) (ca : Option Addr) (cn cc : Nat) (ch : List Bool) (w : World) (hl : cn ≤ 300) (hr : right low high = true) (hb1 : 0 ≤ bound) (hb2 : bound ≤ 10000) (hc : BoolsAt w (.slice ca cn cc) ch) :
    Calls Try.prog 3 #[.int .i64 low, .int .i64 high, .int .i64 bound, .slice ca cn cc] w fun e w' => e = .returned (.bool true) ∧ New w w' := by
  obtain ⟨a, n, p1, p2, p3, p4⟩ := find_plain low high bound hr
  have hat := at_new low high hr
  obtain ⟨e1, e2, e3, e4, e5, e6⟩ := new_fields low high
  have hrr := hr
  simp only [right, decide_eq_true_eq] at hrr
  obtain ⟨hr1, hr2, hr3⟩ := hrr
  have p5 := find_low bound (max low bound) ch (by omega) (by omega) 1000 (newSt low high) hat (by omega) (by omega)
  have HRT := hid (fun w => hr ▸ right_any low high w)
  have HC := hid hc
  have HF0 := hid (fun w => p1 ▸ find_any low high bound none 0 0 [] w hr ⟨hb1, hb2⟩ (.inl ⟨⟨_, _, rfl⟩, rfl⟩))
  obtain ⟨y, hy⟩ : ∃ y, findRun bound ch 1000 (newSt low high) = y := ⟨_, rfl⟩
  rw [hy] at p5
  have HF := hid (fun w hw => hy ▸ find_any low high bound ca cn cc ch w hr ⟨hb1, hb2⟩ hw)
  have HG := hid (fun w hw => hy ▸ rfind_any low high bound ca cn cc ch w hr ⟨hb1, hb2⟩ hw)
  have hnd := need_bd (high - low).toNat (by omega)
  obtain ⟨x, hx⟩ : ∃ x, need (high - low).toNat = x := ⟨_, rfl⟩
  rw [hx] at p2 hnd
  have HS := hid (fun w => hx ▸ steps_any low high w hr)
  have HT := hid (fun w => hx ▸ rsteps_any low high w hr)
  obtain ⟨b, m, f⟩ := y
  dsimp only at *
  clear hx hy hr hc p1 hat e1 e2 e3 e4 e5 e6
  cases hf : (f != 0) with
  | true => by_cases q1 : low < bound
            · by_cases q2 : high < bound
              · as_aux_lemma =>
                  have tok : True := trivial
                  go_enter Try.func3, Try.ntmps3
                  go_wp2_with (first | (go_at_call 7; have tk := tok; clear tok; refine (HF0.out _).mono ?_; rintro e w1 ⟨rfl, n1⟩; have N1 := hid n1; clear n1) | (go_at_call 7; refine (HF.out _ (HC.out.new N1.out)).mono ?_; rintro e w2 ⟨rfl, n2⟩; have N2 := hid n2; clear n2) | (go_at_call 8; refine (HS.out _).mono ?_; rintro e w3 ⟨rfl, n3⟩; have N3 := hid n3; clear n3) | (go_at_call 9; refine (HG.out _ (((HC.out.new N1.out).new N2.out).new N3.out)).mono ?_; rintro e w4 ⟨rfl, n4⟩; have N4 := hid n4; clear n4) | (go_at_call 10; refine (HT.out _).mono ?_; rintro e w5 ⟨rfl, n5⟩; have N5 := hid n5; clear n5) | (go_at_call 11; refine (HRT.out _).mono ?_; rintro e w6 ⟨rfl, rfl⟩) | (go_at_call 6; refine (awake_any _).mono ?_; rintro e w7 ⟨rfl, hn⟩; have HA := hid hn; clear hn))
                  go_ret
                  exact ⟨rfl, Mod.trans N1.out (Mod.trans N2.out (Mod.trans N3.out (Mod.trans N4.out (Mod.trans N5.out HA.out))))⟩
              · as_aux_lemma =>
                  have tok : True := trivial
                  go_enter Try.func3, Try.ntmps3
                  go_wp2_with (first | (go_at_call 7; have tk := tok; clear tok; refine (HF0.out _).mono ?_; rintro e w1 ⟨rfl, n1⟩; have N1 := hid n1; clear n1) | (go_at_call 7; refine (HF.out _ (HC.out.new N1.out)).mono ?_; rintro e w2 ⟨rfl, n2⟩; have N2 := hid n2; clear n2) | (go_at_call 8; refine (HS.out _).mono ?_; rintro e w3 ⟨rfl, n3⟩; have N3 := hid n3; clear n3) | (go_at_call 9; refine (HG.out _ (((HC.out.new N1.out).new N2.out).new N3.out)).mono ?_; rintro e w4 ⟨rfl, n4⟩; have N4 := hid n4; clear n4) | (go_at_call 10; refine (HT.out _).mono ?_; rintro e w5 ⟨rfl, n5⟩; have N5 := hid n5; clear n5) | (go_at_call 11; refine (HRT.out _).mono ?_; rintro e w6 ⟨rfl, rfl⟩) | (go_at_call 6; refine (awake_any _).mono ?_; rintro e w7 ⟨rfl, hn⟩; have HA := hid hn; clear hn))
                  go_ret
                  exact ⟨rfl, Mod.trans N1.out (Mod.trans N2.out (Mod.trans N3.out (Mod.trans N4.out (Mod.trans N5.out HA.out))))⟩
            · as_aux_lemma =>
                have tok : True := trivial
                go_enter Try.func3, Try.ntmps3
                go_wp2_with (first | (go_at_call 7; have tk := tok; clear tok; refine (HF0.out _).mono ?_; rintro e w1 ⟨rfl, n1⟩; have N1 := hid n1; clear n1) | (go_at_call 7; refine (HF.out _ (HC.out.new N1.out)).mono ?_; rintro e w2 ⟨rfl, n2⟩; have N2 := hid n2; clear n2) | (go_at_call 8; refine (HS.out _).mono ?_; rintro e w3 ⟨rfl, n3⟩; have N3 := hid n3; clear n3) | (go_at_call 9; refine (HG.out _ (((HC.out.new N1.out).new N2.out).new N3.out)).mono ?_; rintro e w4 ⟨rfl, n4⟩; have N4 := hid n4; clear n4) | (go_at_call 10; refine (HT.out _).mono ?_; rintro e w5 ⟨rfl, n5⟩; have N5 := hid n5; clear n5) | (go_at_call 11; refine (HRT.out _).mono ?_; rintro e w6 ⟨rfl, rfl⟩) | (go_at_call 6; refine (awake_any _).mono ?_; rintro e w7 ⟨rfl, hn⟩; have HA := hid hn; clear hn))
                go_ret
                exact ⟨rfl, Mod.trans N1.out (Mod.trans N2.out (Mod.trans N3.out (Mod.trans N4.out (Mod.trans N5.out HA.out))))⟩
  | false => by_cases q1 : low < bound
             · by_cases q2 : high < bound
               · as_aux_lemma =>
                   have tok : True := trivial
                   go_enter Try.func3, Try.ntmps3
                   go_wp2_with (first | (go_at_call 7; have tk := tok; clear tok; refine (HF0.out _).mono ?_; rintro e w1 ⟨rfl, n1⟩; have N1 := hid n1; clear n1) | (go_at_call 7; refine (HF.out _ (HC.out.new N1.out)).mono ?_; rintro e w2 ⟨rfl, n2⟩; have N2 := hid n2; clear n2) | (go_at_call 8; refine (HS.out _).mono ?_; rintro e w3 ⟨rfl, n3⟩; have N3 := hid n3; clear n3) | (go_at_call 9; refine (HG.out _ (((HC.out.new N1.out).new N2.out).new N3.out)).mono ?_; rintro e w4 ⟨rfl, n4⟩; have N4 := hid n4; clear n4) | (go_at_call 10; refine (HT.out _).mono ?_; rintro e w5 ⟨rfl, n5⟩; have N5 := hid n5; clear n5) | (go_at_call 11; refine (HRT.out _).mono ?_; rintro e w6 ⟨rfl, rfl⟩) | (go_at_call 6; refine (awake_any _).mono ?_; rintro e w7 ⟨rfl, hn⟩; have HA := hid hn; clear hn))
                   go_ret
                   exact ⟨rfl, Mod.trans N1.out (Mod.trans N2.out (Mod.trans N3.out (Mod.trans N4.out (Mod.trans N5.out HA.out))))⟩
               · as_aux_lemma =>
                   have tok : True := trivial
                   go_enter Try.func3, Try.ntmps3
                   go_wp2_with (first | (go_at_call 7; have tk := tok; clear tok; refine (HF0.out _).mono ?_; rintro e w1 ⟨rfl, n1⟩; have N1 := hid n1; clear n1) | (go_at_call 7; refine (HF.out _ (HC.out.new N1.out)).mono ?_; rintro e w2 ⟨rfl, n2⟩; have N2 := hid n2; clear n2) | (go_at_call 8; refine (HS.out _).mono ?_; rintro e w3 ⟨rfl, n3⟩; have N3 := hid n3; clear n3) | (go_at_call 9; refine (HG.out _ (((HC.out.new N1.out).new N2.out).new N3.out)).mono ?_; rintro e w4 ⟨rfl, n4⟩; have N4 := hid n4; clear n4) | (go_at_call 10; refine (HT.out _).mono ?_; rintro e w5 ⟨rfl, n5⟩; have N5 := hid n5; clear n5) | (go_at_call 11; refine (HRT.out _).mono ?_; rintro e w6 ⟨rfl, rfl⟩) | (go_at_call 6; refine (awake_any _).mono ?_; rintro e w7 ⟨rfl, hn⟩; have HA := hid hn; clear hn))
                   go_ret
                   exact ⟨rfl, Mod.trans N1.out (Mod.trans N2.out (Mod.trans N3.out (Mod.trans N4.out (Mod.trans N5.out HA.out))))⟩
             · as_aux_lemma =>
                 have tok : True := trivial
                 go_enter Try.func3, Try.ntmps3
                 go_wp2_with (first | (go_at_call 7; have tk := tok; clear tok; refine (HF0.out _).mono ?_; rintro e w1 ⟨rfl, n1⟩; have N1 := hid n1; clear n1) | (go_at_call 7; refine (HF.out _ (HC.out.new N1.out)).mono ?_; rintro e w2 ⟨rfl, n2⟩; have N2 := hid n2; clear n2) | (go_at_call 8; refine (HS.out _).mono ?_; rintro e w3 ⟨rfl, n3⟩; have N3 := hid n3; clear n3) | (go_at_call 9; refine (HG.out _ (((HC.out.new N1.out).new N2.out).new N3.out)).mono ?_; rintro e w4 ⟨rfl, n4⟩; have N4 := hid n4; clear n4) | (go_at_call 10; refine (HT.out _).mono ?_; rintro e w5 ⟨rfl, n5⟩; have N5 := hid n5; clear n5) | (go_at_call 11; refine (HRT.out _).mono ?_; rintro e w6 ⟨rfl, rfl⟩) | (go_at_call 6; refine (awake_any _).mono ?_; rintro e w7 ⟨rfl, hn⟩; have HA := hid hn; clear hn))
                 go_ret
                 exact ⟨rfl, Mod.trans N1.out (Mod.trans N2.out (Mod.trans N3.out (Mod.trans N4.out (Mod.trans N5.out HA.out))))⟩

set_option maxRecDepth 100000 in
set_option maxHeartbeats 2000000 in
theorem finds_long (low high bound : Int) (a : Option Addr) (n cap : Nat) (w : World) (hl : 300 < n) (hm : (n : Int) ≤ 9223372036854775807) :
    Calls Try.prog 3 #[.int .i64 low, .int .i64 high, .int .i64 bound, .slice a n cap] w fun e w' => e = .returned (.bool true) ∧ New w w' := by
  go_enter Try.func3, Try.ntmps3
  go_wp2_with (go_at_call 6; refine (awake_any _).mono ?_; rintro e w' ⟨rfl, hn⟩; have HA := hid hn; clear hn)
  go_ret
  exact ⟨rfl, HA.out⟩

set_option maxRecDepth 100000 in
theorem lifted (os : Os) (started : os.Started) (H : Type) (enc : TypeId × Value → H) :
    ReturnsInHanded {} Try.checked os 3 .any (Rows.probeFindsSpec.pre6 enc Try.prog Try.f3 Rows.probeFindsRow.domain false) (Rows.probeFindsSpec.post enc Try.prog Try.f3 false true false false) := by
  refine returnsInHanded_of_change (C := Try.checked) own started (by kernel_rfl) Try.func3
    (ChangeSpec.witness6 (enc := enc) (C := Try.checked) false ⟨#[], #[.int .i64 0, .int .i64 0, .int .i64 0, .slice none 0 0], []⟩ 8 (by kernel_rfl) (by kernel_rfl) (by kernel_rfl) (by kernel_rfl)) ?_
  intro W base args ds gs before hval0 hW hcnd _
  have hval : ∀ (j : Nat) t v, Try.f3.params[j]? = some t → args[j]? = some v → Value.okWide Try.prog W .any base t v := hval0
  have hW' := hW
  obtain ⟨p, q, hA0, hV, rfl, hfz, hnd⟩ := hW
  have hA : DataW.TrodAll enc Try.prog W 0 (fun _ => true) true Try.f3.params.toList args.toList ds p := hA0
  rw [Try.params3] at hA hval
  obtain ⟨v0, vs0, d0, ds0, p0, q0, hargs, rfl, rfl, h0, r0⟩ := trodAll_cons hA
  obtain ⟨v1, vs1, d1, ds1, p1, q1, rfl, rfl, rfl, h1, r1⟩ := trodAll_cons r0
  obtain ⟨v2, vs2, d2, ds2, p2, q2, rfl, rfl, rfl, h2, r2⟩ := trodAll_cons r1
  obtain ⟨v3, vs3, d3, ds3, p3, q3, rfl, rfl, rfl, h3, r3⟩ := trodAll_cons r2
  obtain ⟨rfl, rfl, rfl⟩ := trodAll_nil r3
  obtain rfl : args = #[v0, v1, v2, v3] := by cases args; simp_all
  obtain ⟨rfl, rfl⟩ := trodVars_none hV
  have k0 := h0; have k1 := h1; have k2 := h2; have k3 := h3
  have lt0 : ∀ x ∈ p0, x.block < W.heap.size := by obtain ⟨m, hm⟩ := k0; exact DataW.trod_lt m _ _ _ hm
  have lt1 : ∀ x ∈ p1, x.block < W.heap.size := by obtain ⟨m, hm⟩ := k1; exact DataW.trod_lt m _ _ _ hm
  have lt2 : ∀ x ∈ p2, x.block < W.heap.size := by obtain ⟨m, hm⟩ := k2; exact DataW.trod_lt m _ _ _ hm
  have lt3 : ∀ x ∈ p3, x.block < W.heap.size := by obtain ⟨m, hm⟩ := k3; exact DataW.trod_lt m _ _ _ hm
  obtain ⟨a0, rfl, -, -, w0⟩ := open_int Try.underlying3 (hval 0 3 v0 rfl rfl) h0
  obtain ⟨a1, rfl, -, -, w1⟩ := open_int Try.underlying3 (hval 1 3 v1 rfl rfl) h1
  obtain ⟨a2, rfl, -, -, w2⟩ := open_int Try.underlying3 (hval 2 3 v2 rfl rfl) h2
  obtain ⟨a, len, cap, rfl⟩ := okWide_slice Try.underlying22 (hval 3 22 v3 rfl rfl)
  obtain ⟨ch, hm, hbs⟩ : ∃ ch : List Bool, len ≤ maxLen ∧ BoolsAt W (.slice a len cap) ch := by
    obtain ⟨fuel, hf⟩ := h3
    rcases open_slice Try.underlying22 hf with ⟨hcs, _⟩ | ⟨x, l, c, m, n, D, Pl, hcs, _, hl, hmx, hmm, _, hcell⟩
    · simp [Value.cells] at hcs
      obtain ⟨rfl, rfl, rfl⟩ := hcs
      exact ⟨[], by simp [maxLen], .inl ⟨⟨_, _, rfl⟩, rfl⟩⟩
    · simp [Value.cells] at hcs
      obtain ⟨rfl, rfl, rfl⟩ := hcs
      simp at hmm
      have hC : Try.prog.cellsOf 4 = 1 := by kernel_rfl
      have hc : ∀ i, i < len → ∃ b : Bool, W.cell? (x.add i) = some (.bool b) := by
        intro i hi
        obtain ⟨cs', hc, ht'⟩ := hcell i (by omega)
        rw [hC] at hc
        obtain ⟨_, hcl, hat⟩ := World.cells?_some hc
        obtain ⟨b, hb, -⟩ := DataW.trod_bool Try.underlying4 ht'
        have h0 := hat 0 (by omega)
        subst hb
        refine ⟨b, ?_⟩
        have e0 : ∀ y : Addr, y.add 0 = y := fun y => by simp [Addr.add]
        rw [e0, Nat.mul_one] at h0
        simpa using h0
      obtain ⟨L, hL, hp⟩ := list_of len hc
      subst hL
      refine ⟨L, by omega, ?_⟩
      by_cases hz : L.length = 0
      · have hn : L = [] := List.eq_nil_of_length_eq_zero hz
        subst hn
        exact .inl ⟨⟨_, _, rfl⟩, rfl⟩
      · obtain ⟨b, e0⟩ := hc 0 (by omega)
        have hs := cell_spot e0
        obtain ⟨cb, coff, sp⟩ := x
        have hs' : sp = none := hs
        subst hs'
        refine .inr ⟨cb, coff, cap, rfl, World.block_lt_of_cell? _ _ e0, by omega, fun i hi => ?_⟩
        have := hp i L[i] (List.getElem?_eq_getElem hi)
        rw [add_none] at this
        rw [this]
        simp [List.getD, List.getElem?_eq_getElem hi]
  clear hA0 hval0
  have hwalk : Calls Try.prog 3 #[.int .i64 a0, .int .i64 a1, .int .i64 a2, .slice a len cap] W fun e w' => e = .returned (.bool true) ∧ New W w' := by
    by_cases hl : len ≤ 300
    · cases hr : right a0 a1 with
      | false => exact finds_wrong a0 a1 a2 a len cap W hl hr
      | true =>
        by_cases hb : a2 < 0 ∨ 10000 < a2
        · exact finds_out a0 a1 a2 a len cap W hl hr hb
        · exact finds_any a0 a1 a2 a len cap ch W hl hr (by omega) (by omega) hbs
    · exact finds_long a0 a1 a2 a len cap W (by omega) (by unfold maxLen at hm; omega)
  refine hwalk.mono fun e W' ⟨he, hn⟩ => ?_
  subst he
  have bel : Below W.heap.size W W' := hn.below _ (Nat.le_refl _) (fun _ _ x => x)
  exact ⟨_, rfl, _, _, _, [], _, [], hW', trodAll_mk1 (shut_bool Try.underlying4 _), (trodAll_cons_mk (Below.trod laidOut (by kernel_rfl) (of_decide_eq_true (by kernel_rfl)) k0 bel lt0) (trodAll_cons_mk (Below.trod laidOut (by kernel_rfl) (of_decide_eq_true (by kernel_rfl)) k1 bel lt1) (trodAll_cons_mk (Below.trod laidOut (by kernel_rfl) (of_decide_eq_true (by kernel_rfl)) k2 bel lt2) (trodAll_cons_mk (Below.trod laidOut (by kernel_rfl) (of_decide_eq_true (by kernel_rfl)) k3 bel lt3) trodAll_mk0)))), rfl, bel.frame _, fun h => by cases h⟩

theorem over : Rows.probeFindsRow.holds Try.pinned (OpenSpec.ofChange Rows.probeFindsSpec) :=
  OpenClaim.holds_of_wide 3 Try.f3 rfl rfl rfl rfl rfl rfl rfl ⟨rfl, rfl, rfl, rfl, rfl⟩ rfl rfl rfl rfl rfl (by kernel_rfl) Try.func3 (by kernel_rfl)
    (of_decide_eq_true (by kernel_rfl)) (by unfold Func.isWrapper; first | (rw [if_pos (by decide +kernel)]; kernel_rfl) | (rw [if_neg (by decide +kernel)]; exact ⟨rfl, rfl⟩))
    (fun os started H enc _ => lifted os started H enc)

theorem proved : Rows.ProbeFindsSaid := over
#print axioms proved
end Go.Proofs.Ytakglmdpaaiclaa.probeFinds
