/-
  Several texts in one, in their build order. The iterator over a field's bits (package bits), whatever the loop's rounds do that leave the field alone. Conditions: as they stand. A region that draws its order, in a function that holds a range over a function: none of its operations panics; then what is asked behind a panic need not be told. Over any program. No condition but those of the lemmas.
-/
import Derived.Test.YtbgmkplpolgebaaGreatDoorM14
import Derived.Test.YtbgmkplpolgebaaGreatDoorM12
namespace Go.Proofs.YtbgmkplpolgebaaGreatDoor
set_option linter.unusedSimpArgs false
set_option linter.unusedVariables false
open Go.RowKit Go.Shelf
attribute [local go_sem] Oper.semAt_some

theorem numsL_le (n : Nat) (s : List UInt8) : (numsL n s).length ≤ n := by
  unfold numsL
  have := List.length_filter_le (fun i => bitL s i) (List.range n)
  simpa using this
set_option maxRecDepth 100000 in
set_option maxHeartbeats 4000000 in
theorem all_iter (s : List UInt8) (n : Int) (c B fb lp m : Nat) (hm : 1 ≤ m) (Inv : List Nat → World → Prop)
    (hI : ∀ T W, Inv T W → Blk W fb #[.int .i64 n, .slice (some ⟨B, 0, none⟩) s.length c] 120 ∧ ByAt W B s)
    (hY : ∀ T i W, Inv T W → i < 8 * s.length → T.length < 8 * s.length → YieldAt Fence.wide (m - 1) Tryz.prog lp #[.int .i64 i] W fun e W' => e = .returned (.bool true) ∧ Inv (T ++ [i]) W')
    (W : World) (h0 : Inv [] W) (hs : s.length ≤ 600) :
    CallsIn Fence.wide m Tryz.prog 148 #[.func (.yield lp) #[] #[], .pointer (some ⟨fb, 0, none⟩)] W fun e W' => (∃ v, e = .returned v) ∧ Inv (numsL (8 * s.length) s) W' := by
  refine callsIn_of_wp Tryz.func148 rfl trivial ?_ rfl
  simp only [Tryz.ntmps148, List.size_toArray, List.length_cons, List.length_nil, Nat.reduceAdd, Nat.reduceSub, Array.replicate_succ, Array.replicate_zero, List.push_toArray, List.append_toArray, List.nil_append, List.cons_append]
  have HI := hid hI; have HY := hid hY; have H0 := hid h0
  obtain ⟨b0, hby⟩ := hI _ _ h0
  have c1 := b0.cellv 1 rfl; have cl := b0.lt
  clear hI hY h0 b0 hby
  gi_wp2
  gi_loopw [9] (fun i wr => ∃ (k : Nat), i = .int .i64 k ∧ k ≤ s.length ∧ Inv (numsL (8 * k) s) wr) (fun i _ => s.length - (intOf i).toNat)
  case atStart => exact ⟨0, rfl, by omega, by simpa [numsL] using H0.out⟩
  case round =>
    obtain ⟨k, rfl, hk, hinv⟩ := hrel
    have HV := hid hinv
    obtain ⟨b1, hby⟩ := HI.out _ _ hinv
    clear hinv b1 c1 cl H0
    by_cases hlt : k < s.length
    · have hltI : (k : Int) < (s.length : Int) := by omega
      have g0 := hby.cell hlt
      have gl := hby.lt
      have HNB := hid (numsL_byte s k hlt)
      obtain ⟨x, hx⟩ : ∃ x, x = s[k] := ⟨_, rfl⟩
      rw [← hx] at g0 HNB
      clear hx hby
      gi_wp2
      gi_loopw [4] (fun v wx => ∃ (y : UInt8) (T : List Nat), v = .int .u8 (y.toNat : Int) ∧ T ++ (setBits y).map (8 * k + ·) = numsL (8 * (k + 1)) s ∧ Inv T wx) (fun v _ => (setBits (UInt8.ofNat (intOf v).toNat)).length)
      case atStart => exact ⟨x, _, rfl, HNB.out.symm, HV.out⟩
      case round =>
        clear HV HNB g0 gl
        obtain ⟨y, T, rfl, hT, hv⟩ := hrel
        have HT := hid hT; have HV := hid hv
        clear hT hv
        by_cases hy : y = 0
        · subst hy
          have e0 : (((0 : UInt8).toNat : Int) != 0) = false := by rfl
          rw [setBits_zero] at HT
          gi_wp2
          exact ⟨⟨k + 1, by simp, by omega, by have h := HT.out; simp at h; rw [← h]; exact HV.out⟩, by simp [intOf]; omega⟩
        · obtain ⟨i, hi, hi8, hst⟩ := setBits_step y hy
          have e0 : ((y.toNat : Int) != 0) = true := by
            rw [bne_iff_ne]
            intro q
            exact hy (UInt8.toNat_inj.1 (by show _ = 0; omega))
          have hnm := not_mask y hi8
          have hyl := y.toNat_lt
          have HLZ := hid (fun W => Tryz.bits_LeadingZeros8 (y.toNat : Int) W (by omega) (by omega))
          rw [hi] at HLZ
          have HST := hid hst
          obtain ⟨z, hz⟩ : ∃ z, z = setB y i false := ⟨_, rfl⟩
          rw [← hz] at hnm HST
          clear hst hz hi hy
          have hYY := HY.out T (8 * k + i) wr HV.out (by omega) (by
            have h1 := congrArg List.length HT.out
            have h2 := numsL_le (8 * (k + 1)) s
            rw [HST.out] at h1
            simp at h1
            omega)
          rw [show ((8 * k + i : Nat) : Int) = 8 * (k : Int) + (i : Int) by omega] at hYY
          obtain ⟨fn, tmps, assign, body, hyy, hR⟩ := hYY
          have HR := hid hR
          clear hR
          gi_wp2_with fail
          refine ⟨trivial, (callsIn_wide.2 (HLZ.out _)).mono ?_⟩
          rintro e w1 ⟨rfl, rfl⟩
          gi_wp2_with fail
          refine HR.out.mono ?_
          rintro e W2 ⟨rfl, hi2⟩
          have HI2 := hid hi2
          clear hi2
          gi_wp2
          refine ⟨⟨z, T ++ [8 * k + i], rfl, by rw [← HT.out, HST.out]; simp, HI2.out⟩, ?_⟩
          simp only [intOf, Int.toNat_natCast, UInt8.ofNat_toNat]
          rw [HST.out]
          simp
    · obtain rfl : k = s.length := by omega
      clear hby
      gi_wp2
      go_end0
      exact ⟨⟨_, rfl⟩, HV.out⟩
end Go.Proofs.YtbgmkplpolgebaaGreatDoor

namespace Go.Proofs.YtbgmkplpolgebaaGreatDoor
set_option linter.unusedSimpArgs false
set_option linter.unusedVariables false
open Go.RowKit

end Go.Proofs.YtbgmkplpolgebaaGreatDoor
