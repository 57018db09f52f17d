/-
  The walks of within (the reference) and slices.Equal at texts. Condition: both slices hold texts.
-/
import Derived.Test.YtnhgichiedninaaDoorMem5
import Derived.Test.YtnhgichiedninaaDoorQuiet
namespace Go.Proofs.YtnhgichiedninaaDoor
set_option linter.unusedSimpArgs false
set_option linter.unusedVariables false
open Go.RowKit

theorem prefix_upto {p q : List ByteArray} (hl : p.length ≤ q.length) (h : ∀ (j : Nat) (h1 : j < p.length) (h2 : j < q.length), q[j] = p[j]) : p <+: q := by
  rw [List.prefix_iff_eq_take]
  apply List.ext_getElem
  · simp; omega
  · intro j h1 h2
    simp at h2
    simp [h j h1 (by omega)]
theorem prefix_not {p q : List ByteArray} {j : Nat} (h1 : j < p.length) (h2 : j < q.length) (h : q[j] ≠ p[j]) : ¬ p <+: q := by
  intro hp
  exact h (List.IsPrefix.getElem hp h1).symm

set_option maxHeartbeats 1000000 in
theorem within_any (a b : Option Addr) (c d : Nat) (p q : List ByteArray) (w : World) (hp : StrsAt w a c p) (hq : StrsAt w b d q) :
    Calls Tryd.prog 46 #[.slice a p.length c, .slice b q.length d] w fun e w' => e = .returned (.bool (decide (p <+: q))) ∧ w = w' := by
  have hm1 := hp.room; have hm2 := hp.cap; have hm3 := hq.room; have hm4 := hq.cap
  unfold maxLen at hm2 hm4
  by_cases hl : p.length ≤ q.length
  · by_cases hz : 0 < p.length
    · obtain ⟨b1, o1, rfl, hb1, hc1⟩ := hp.get hz
      obtain ⟨b2, o2, rfl, hb2, hc2⟩ := hq.get (by omega)
      have HP := hid (And.intro hp hq)
      clear hp hq
      go_enter Tryd.func46, Tryd.ntmps46
      go_wp2
      go_loopw [14] (fun i wr => ∃ k : Nat, i = .int .i64 k ∧ k ≤ p.length ∧ (∀ (j : Nat) (h1 : j < p.length) (h2 : j < q.length), j < k → q[j] = p[j]) ∧ wr = w) (fun i _ => p.length - (intOf i).toNat)
      case atStart => exact ⟨0, rfl, by omega, by intros; omega, rfl⟩
      case round =>
        obtain ⟨k, rfl, hk, hb, rfl⟩ := hrel
        have HB := hid hb
        clear hb
        by_cases hlt : k < p.length
        · have g1 := hc1 k hlt
          have g2 := hc2 k (by omega)
          have HC1 := hid hc1; have HC2 := hid hc2
          clear hc1 hc2
          by_cases he : q[k] = p[k]
          · have hb2 : (q[k].toList == p[k].toList) = true := by rw [two_eq, decide_eq_true he]
            have HE := hid he
            clear he
            go_wp2
            exact ⟨⟨k + 1, by simp, by omega, fun j h1 h2 hj => by rcases Nat.lt_succ_iff_lt_or_eq.1 hj with h | h; exact HB.out j h1 h2 h; subst h; exact HE.out, trivial⟩, by simp [intOf]; omega⟩
          · have hb2 : (q[k].toList == p[k].toList) = false := by rw [two_eq, decide_eq_false he]
            have HE := hid (prefix_not hlt (by omega) he)
            clear he
            go_wp2
            go_ret
            exact ⟨ret_bool (decide_eq_false HE.out).symm, rfl⟩
        · have HE := hid (prefix_upto hl (fun j h1 h2 => HB.out j h1 h2 (by omega)))
          clear hc1 hc2
          go_wp2
          go_ret
          exact ⟨ret_bool (decide_eq_true HE.out).symm, rfl⟩
    · obtain rfl : p = [] := List.eq_nil_of_length_eq_zero (by omega)
      clear hp hq
      go_enter Tryd.func46, Tryd.ntmps46
      go_wp2
      refine wp_loop_rounds 1 ?_
      rw [rounds_succ]
      go_wp2
      go_ret
      exact ⟨ret_bool (decide_eq_true (List.nil_prefix)).symm, rfl⟩
  · have HE := hid (show ¬ p <+: q from fun h => hl h.length_le)
    clear hp hq
    go_enter Tryd.func46, Tryd.ntmps46
    go_wp2
    go_ret
    exact ⟨ret_bool (decide_eq_false HE.out).symm, rfl⟩

theorem eq_upto {p q : List ByteArray} (hl : p.length = q.length) (h : ∀ (j : Nat) (h1 : j < p.length) (h2 : j < q.length), p[j] = q[j]) : p = q :=
  List.ext_getElem hl h
theorem eq_not {p q : List ByteArray} {j : Nat} (h1 : j < p.length) (h2 : j < q.length) (h : p[j] ≠ q[j]) : p ≠ q := by
  rintro rfl
  exact h rfl
set_option maxHeartbeats 1000000 in
theorem equal_any (a b : Option Addr) (c d : Nat) (p q : List ByteArray) (w : World) (hp : StrsAt w a c p) (hq : StrsAt w b d q) :
    Calls Tryd.prog 85 #[.slice a p.length c, .slice b q.length d] w fun e w' => e = .returned (.bool (decide (p = q))) ∧ New w w' := by
  have hm1 := hp.room; have hm2 := hp.cap; have hm3 := hq.room; have hm4 := hq.cap
  unfold maxLen at hm2 hm4
  by_cases hl : p.length = q.length
  · by_cases hz : 0 < p.length
    · obtain ⟨b1, o1, rfl, hb1, hc1⟩ := hp.get hz
      obtain ⟨b2, o2, rfl, hb2, hc2⟩ := hq.get (by omega)
      have HP := hid (And.intro hp hq)
      have HL := hid hl
      rw [← hl]
      clear hp hq hl
      go_enter Tryd.func85, Tryd.ntmps85
      go_wp2
      go_loopw [13] (fun i wr => ∃ k : Nat, i = .int .i64 k ∧ k ≤ p.length ∧ (∀ (j : Nat) (h1 : j < p.length) (h2 : j < q.length), j < k → p[j] = q[j]) ∧ ∃ n, wr = w.drewN n) (fun i _ => p.length - (intOf i).toNat)
      case atStart => exact ⟨0, rfl, by omega, by intros; omega, 0, rfl⟩
      case round =>
        obtain ⟨k, rfl, hk, hb, n, rfl⟩ := hrel
        have HB := hid hb
        clear hb
        by_cases hlt : k < p.length
        · have hlt2 : k < q.length := by have := HL.out; omega
          have g1 := hc1 k hlt
          have g2 := hc2 k hlt2
          have HC1 := hid hc1; have HC2 := hid hc2
          clear hc1 hc2
          by_cases he : p[k] = q[k]
          · have hb2 : (p[k].toList == q[k].toList) = true := by rw [two_eq, decide_eq_true he]
            have HE := hid he
            clear he
            go_wp2_with fail
            go_region
            go_wp2
            exact ⟨⟨k + 1, by simp, by omega, fun j h1 h2 hj => by rcases Nat.lt_succ_iff_lt_or_eq.1 hj with h | h; exact HB.out j h1 h2 h; subst h; exact HE.out, n + 1, rfl⟩, by simp [intOf]; omega⟩
          · have hb2 : (p[k].toList == q[k].toList) = false := by rw [two_eq, decide_eq_false he]
            have HE := hid (eq_not hlt hlt2 he)
            clear he
            go_wp2_with fail
            go_region
            go_wp2
            go_ret
            exact ⟨ret_bool (decide_eq_false HE.out).symm, (Mod.refl _ _).drewN n |>.drew⟩
        · have HE := hid (eq_upto HL.out (fun j h1 h2 => HB.out j h1 h2 (by omega)))
          clear hc1 hc2
          go_wp2
          go_ret
          exact ⟨ret_bool (decide_eq_true HE.out).symm, (Mod.refl _ _).drewN n⟩
    · obtain rfl : p = [] := List.eq_nil_of_length_eq_zero (by omega)
      obtain rfl : q = [] := List.eq_nil_of_length_eq_zero (by simpa using hl.symm)
      clear hp hq
      go_enter Tryd.func85, Tryd.ntmps85
      go_wp2
      refine wp_loop_rounds 1 ?_
      rw [rounds_succ]
      go_wp2
      go_ret
      exact ⟨ret_bool (by simp), Mod.refl _ _⟩
  · have HE := hid (show p ≠ q from fun h => hl (by rw [h]))
    clear hp hq
    go_enter Tryd.func85, Tryd.ntmps85
    go_wp2
    go_ret
    exact ⟨ret_bool (decide_eq_false HE.out).symm, Mod.refl _ _⟩
end Go.Proofs.YtnhgichiedninaaDoor
