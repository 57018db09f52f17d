/-
  The walk of Light: it answers, whatever it is. Condition: the list lies as told.
-/
import Derived.Test.YtnccfikimmolgaaDoorMem5
import Derived.Test.YtnccfikimmolgaaDoorQuiet
namespace Go.Proofs.YtnccfikimmolgaaDoor
set_option linter.unusedSimpArgs false
set_option linter.unusedVariables false
open Go.RowKit
set_option maxRecDepth 100000 in
set_option maxHeartbeats 2000000 in
theorem light_any (a : Option Addr) (c : Nat) (l : List FileV) (w : World) (h : FilesAt w a c l) :
    Calls Tryd.prog 9 #[.slice a l.length c] w fun e w' => (∃ v, e = .returned (.bool v)) ∧ New w w' := by
  have hm1 := h.room; have hm2 := h.cap
  unfold maxLen at hm2
  by_cases hz : 0 < l.length
  · obtain ⟨b1, o1, rfl, hb1, hc1⟩ := h.get hz
    have HC1 := hid hc1
    clear h hc1
    go_enter Tryd.func9, Tryd.ntmps9
    go_wp2
    go_loopw [10, 3] (fun i n wr => ∃ (k : Nat) (x : Int), i = .int .i64 k ∧ n = .int .i64 x ∧ k ≤ l.length ∧ New w wr) (fun i _ _ => l.length - (intOf i).toNat)
    case atStart => exact ⟨0, 0, rfl, rfl, by omega, Mod.refl _ _⟩
    case round =>
      obtain ⟨k, x, rfl, rfl, hk, hn⟩ := hrel
      have HN := hid hn
      by_cases hlt : k < l.length
      · obtain ⟨pa, pc, g0, g1, g2, hst, -⟩ := (HC1.out k hlt).new hn
        clear hn
        obtain ⟨f, hf⟩ : ∃ f, f = l[k] := ⟨_, rfl⟩
        rw [← hf] at g0 g1 g2 hst
        clear hf
        have hr1 := hst.room; have hr2 := hst.cap
        unfold maxLen at hr2
        have HST := hid hst
        clear hst
        by_cases h12 : (12 : Int) < f.path.length
        · go_wp2
          go_ret
          first | exact ⟨⟨_, rfl⟩, HN.out.alloc _⟩ | exact ⟨.inl rfl, HN.out.alloc _⟩ | exact ⟨.inr rfl, HN.out.alloc _⟩
        · by_cases hp0 : 0 < f.path.length
          · obtain ⟨pb, po, rfl, hpb, hpc⟩ := HST.out.get hp0
            have HPC := hid hpc
            clear hpc
            go_wp2
            go_loopw [21, 3] (fun j n wr2 => ∃ (m : Nat) (y : Int), j = .int .i64 m ∧ n = .int .i64 y ∧ m ≤ f.path.length ∧ wr2 = wr.alloc (.cells #[.slice (some ⟨pb, po, none⟩) f.path.length pc, .int .i64 f.len, .bool f.pad] 45)) (fun j _ _ => f.path.length - (intOf j).toNat)
            case atStart => exact ⟨0, x, rfl, rfl, by omega, rfl⟩
            case round =>
              obtain ⟨m, y, rfl, rfl, hm, rfl⟩ := hrel
              by_cases hmt : m < f.path.length
              · have q0 := HPC.out m hmt
                have hsz : (f.path[m]).size ≤ 9223372036854775807 := HST.out.small _ (List.getElem_mem hmt)
                obtain ⟨s, hs⟩ : ∃ s, s = f.path[m] := ⟨_, rfl⟩
                rw [← hs] at q0 hsz
                clear hs
                go_wp2
                exact ⟨⟨m + 1, _, by simp, rfl, by omega, trivial⟩, by simp [intOf]; omega⟩
              · go_wp2
                exact ⟨⟨k + 1, y, by simp, rfl, by omega, HN.out.alloc _⟩, by simp [intOf]; omega⟩
          · have hpl : f.path.length = 0 := by omega
            rw [hpl] at g0
            clear hpl
            go_wp2
            refine wp_loop_rounds 1 ?_
            rw [rounds_succ]
            go_wp2
            exact ⟨⟨k + 1, x, by simp, rfl, by omega, HN.out.alloc _⟩, by simp [intOf]; omega⟩
      · clear hn
        go_wp2
        all_goals go_ret
        all_goals first | exact ⟨⟨_, rfl⟩, HN.out⟩ | exact ⟨.inl rfl, HN.out⟩ | exact ⟨.inr rfl, HN.out⟩
  · obtain rfl : l = [] := List.eq_nil_of_length_eq_zero (by omega)
    clear h
    go_enter Tryd.func9, Tryd.ntmps9
    go_wp2
    refine wp_loop_rounds 1 ?_
    rw [rounds_succ]
    go_wp2
    all_goals go_ret
    all_goals first | exact ⟨⟨_, rfl⟩, Mod.refl _ _⟩ | exact ⟨.inl rfl, Mod.refl _ _⟩ | exact ⟨.inr rfl, Mod.refl _ _⟩
end Go.Proofs.YtnccfikimmolgaaDoor
