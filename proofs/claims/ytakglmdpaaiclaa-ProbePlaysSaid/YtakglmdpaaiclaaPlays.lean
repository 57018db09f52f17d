/-
  ProbePlays returns true, for every input.
-/
import Derived.Test.YtakglmdpaaiclaaLb
import Derived.Test.YtakglmdpaaiclaaOpen
namespace Go.Proofs.Ytakglmdpaaiclaa.probePlays
open Go.ChangeShapes Go.WideShapes Go.ChangeAt Go.RowKit Go.Deep
set_option linter.unusedVariables false

theorem own : ownKnob Try.prog.godebug = none := by kernel_rfl
theorem laidOut : laidOutB Try.prog = true := by kernel_rfl


set_option maxRecDepth 100000 in
set_option maxHeartbeats 1000000 in
theorem plays_bad (low high : Int) (a : Option Addr) (n cap : Nat) (w : World) (hl : n ≤ 150) (hr : right low high = false) :
    Calls Try.prog 5 #[.int .i64 low, .int .i64 high, .slice a n cap] w fun e w' => e = .returned (.bool true) ∧ New w w' := by
  have HR := hid hr
  clear hr
  go_enter Try.func5, Try.ntmps5
  go_wp2_with (first | (go_at_call 12; refine (new_bad _ _ _ HR.out).mono ?_; rintro e w1 ⟨rfl, rfl⟩) | (go_at_call 19; refine (rnew_bad _ _ _ HR.out).mono ?_; rintro e w2 ⟨rfl, rfl⟩) | (go_at_call 6; refine (awake_any _).mono ?_; rintro e w' ⟨rfl, hn⟩; have HA := hid hn; clear hn))
  go_ret
  exact ⟨rfl, HA.out⟩
set_option maxRecDepth 100000 in
set_option maxHeartbeats 1000000 in
theorem plays_long (low high : Int) (a : Option Addr) (n cap : Nat) (w : World) (hl : 150 < n) (hm : (n : Int) ≤ 9223372036854775807) :
    Calls Try.prog 5 #[.int .i64 low, .int .i64 high, .slice a n cap] w fun e w' => e = .returned (.bool true) ∧ New w w' := by
  go_enter Try.func5, Try.ntmps5
  go_wp2_with (go_at_call 6; refine (awake_any _).mono ?_; rintro e w' ⟨rfl, hn⟩; have HA := hid hn; clear hn)
  go_ret
  exact ⟨rfl, HA.out⟩

set_option maxRecDepth 100000 in
theorem lifted (os : Os) (started : os.Started) (H : Type) (enc : TypeId × Value → H) :
    ReturnsInHanded {} Try.checked os 5 .any (Rows.probePlaysSpec.pre6 enc Try.prog Try.f5 Rows.probePlaysRow.domain false) (Rows.probePlaysSpec.post enc Try.prog Try.f5 false true false false) := by
  refine returnsInHanded_of_change (C := Try.checked) own started (by kernel_rfl) Try.func5
    (ChangeSpec.witness6 (enc := enc) (C := Try.checked) false ⟨#[], #[.int .i64 0, .int .i64 0, .slice none 0 0], []⟩ 8 (by kernel_rfl) (by kernel_rfl) (by kernel_rfl) (by kernel_rfl)) ?_
  intro W base args ds gs before hval0 hW hcnd _
  have hval : ∀ (j : Nat) t v, Try.f5.params[j]? = some t → args[j]? = some v → Value.okWide Try.prog W .any base t v := hval0
  have hW' := hW
  obtain ⟨p, q, hA0, hV, rfl, hfz, hnd⟩ := hW
  have hA : DataW.TrodAll enc Try.prog W 0 (fun _ => true) true Try.f5.params.toList args.toList ds p := hA0
  rw [Try.params5] at hA hval
  obtain ⟨v0, vs0, d0, ds0, p0, q0, hargs, rfl, rfl, h0, r0⟩ := trodAll_cons hA
  obtain ⟨v1, vs1, d1, ds1, p1, q1, rfl, rfl, rfl, h1, r1⟩ := trodAll_cons r0
  obtain ⟨v2, vs2, d2, ds2, p2, q2, rfl, rfl, rfl, h2, r2⟩ := trodAll_cons r1
  obtain ⟨rfl, rfl, rfl⟩ := trodAll_nil r2
  obtain rfl : args = #[v0, v1, v2] := by cases args; simp_all
  obtain ⟨rfl, rfl⟩ := trodVars_none hV
  have k0 := h0; have k1 := h1; have k2 := h2
  have lt0 : ∀ x ∈ p0, x.block < W.heap.size := by obtain ⟨m, hm⟩ := k0; exact DataW.trod_lt m _ _ _ hm
  have lt1 : ∀ x ∈ p1, x.block < W.heap.size := by obtain ⟨m, hm⟩ := k1; exact DataW.trod_lt m _ _ _ hm
  have lt2 : ∀ x ∈ p2, x.block < W.heap.size := by obtain ⟨m, hm⟩ := k2; exact DataW.trod_lt m _ _ _ hm
  obtain ⟨a0, rfl, -, -, w0⟩ := open_int Try.underlying3 (hval 0 3 v0 rfl rfl) h0
  obtain ⟨a1, rfl, -, -, w1⟩ := open_int Try.underlying3 (hval 1 3 v1 rfl rfl) h1
  obtain ⟨a, len, cap, rfl⟩ := okWide_slice Try.underlying40 (hval 2 40 v2 rfl rfl)
  obtain ⟨l, hlen, hm, hacts⟩ : ∃ l : List ActV, l.length = len ∧ len ≤ maxLen ∧ ActsAt W a l := by
    obtain ⟨fuel, hf⟩ := h2
    rcases open_slice_fields Try.underlying40 Try.underlying45 (by kernel_rfl) (by kernel_rfl) hf with ⟨hcs, _⟩ | ⟨x, l, c, m, D, Pl, hcs, _, hl, hmx, hmm, _, hcell⟩
    · simp [Value.cells] at hcs
      obtain ⟨rfl, rfl, rfl⟩ := hcs
      exact ⟨[], rfl, by simp [maxLen], .inl rfl⟩
    · simp [Value.cells] at hcs
      obtain ⟨rfl, rfl, rfl⟩ := hcs
      simp at hmm
      have hc : ∀ i, i < len → ∃ x' : ActV, W.cell? (x.add (i * 5)) = some (.int .i64 x'.kind) ∧ W.cell? (x.add (i * 5 + 1)) = some (.int .i64 x'.later) ∧ W.cell? (x.add (i * 5 + 2)) = some (.int .i64 x'.behind) ∧ W.cell? (x.add (i * 5 + 3)) = some (.int .i64 x'.size) ∧ W.cell? (x.add (i * 5 + 4)) = some (.bool x'.others) := by
        intro i hi
        obtain ⟨ys, n, _, _, _, hfs⟩ := hcell i (by omega)
        obtain ⟨u0, y0, e0, _, t0⟩ := hfs 0 _ rfl
        obtain ⟨u1, y1, e1, _, t1⟩ := hfs 1 _ rfl
        obtain ⟨u2, y2, e2, _, t2⟩ := hfs 2 _ rfl
        obtain ⟨u3, y3, e3, _, t3⟩ := hfs 3 _ rfl
        obtain ⟨u4, y4, e4, _, t4⟩ := hfs 4 _ rfl
        obtain ⟨x0, c0, -, -⟩ := DataW.trod_int Try.underlying3 t0
        obtain ⟨x1, c1, -, -⟩ := DataW.trod_int Try.underlying3 t1
        obtain ⟨x2, c2, -, -⟩ := DataW.trod_int Try.underlying3 t2
        obtain ⟨x3, c3, -, -⟩ := DataW.trod_int Try.underlying3 t3
        obtain ⟨x4, c4, -⟩ := DataW.trod_bool Try.underlying4 t4
        simp at c0 c1 c2 c3 c4
        subst c0 c1 c2 c3 c4
        exact ⟨⟨x0, x1, x2, x3, x4⟩, e0, e1, e2, e3, e4⟩
      obtain ⟨L, hL, hp⟩ := list_of len hc
      refine ⟨L, hL, by omega, ?_⟩
      by_cases hz : len = 0
      · exact .inl (List.eq_nil_of_length_eq_zero (by omega))
      · obtain ⟨x', e0, -⟩ := hc 0 (by omega)
        have hs := cell_spot e0
        obtain ⟨cb, coff, sp⟩ := x
        have hs' : sp = none := hs
        subst hs'
        refine .inr ⟨cb, coff, rfl, World.block_lt_of_cell? _ _ e0, by omega, fun i y hy => ?_⟩
        have := hp i y hy
        simp only [add_none, ← Nat.add_assoc] at this
        exact this
  subst hlen
  clear hA0 hval0
  have hwalk : Calls Try.prog 5 #[.int .i64 a0, .int .i64 a1, .slice a l.length cap] W fun e w' => e = .returned (.bool true) ∧ New W w' := by
    by_cases hl : l.length ≤ 150
    · cases hr : right a0 a1 with
      | true => exact plays_any a0 a1 a cap l W hl hr hacts
      | false => exact plays_bad a0 a1 a _ cap W hl hr
    · exact plays_long a0 a1 a _ cap W (by omega) (by unfold maxLen at hm; omega)
  refine hwalk.mono fun e W' ⟨he, hn⟩ => ?_
  subst he
  have bel : Below W.heap.size W W' := hn.below _ (Nat.le_refl _) (fun _ _ x => x)
  exact ⟨_, rfl, _, _, _, [], _, [], hW', trodAll_mk1 (shut_bool Try.underlying4 _), (trodAll_cons_mk (Below.trod laidOut (by kernel_rfl) (of_decide_eq_true (by kernel_rfl)) k0 bel lt0) (trodAll_cons_mk (Below.trod laidOut (by kernel_rfl) (of_decide_eq_true (by kernel_rfl)) k1 bel lt1) (trodAll_cons_mk (Below.trod laidOut (by kernel_rfl) (of_decide_eq_true (by kernel_rfl)) k2 bel lt2) trodAll_mk0))), rfl, bel.frame _, fun h => by cases h⟩

theorem over : Rows.probePlaysRow.holds Try.pinned (OpenSpec.ofChange Rows.probePlaysSpec) :=
  OpenClaim.holds_of_wide 5 Try.f5 rfl rfl rfl rfl rfl rfl rfl ⟨rfl, rfl, rfl, rfl, rfl⟩ rfl rfl rfl rfl rfl (by kernel_rfl) Try.func5 (by kernel_rfl)
    (of_decide_eq_true (by kernel_rfl)) (by unfold Func.isWrapper; first | (rw [if_pos (by decide +kernel)]; kernel_rfl) | (rw [if_neg (by decide +kernel)]; exact ⟨rfl, rfl⟩))
    (fun os started H enc _ => lifted os started H enc)

theorem proved : Rows.ProbePlaysSaid := over
#print axioms proved
end Go.Proofs.Ytakglmdpaaiclaa.probePlays
