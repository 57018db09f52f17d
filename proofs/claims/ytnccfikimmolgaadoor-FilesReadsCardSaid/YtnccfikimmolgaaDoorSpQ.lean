/-
  The law's comparison of two lists of spans; Small. Conditions: as they stand.
-/
import Derived.Test.YtnccfikimmolgaaDoorSpZ
import Derived.Test.YtnccfikimmolgaaDoorLi
import Derived.Deep.QuietTactic
import Derived.BigQuiet
namespace Go.Proofs.YtnccfikimmolgaaDoor
set_option linter.unusedSimpArgs false
set_option linter.unusedVariables false
open Go.RowKit Go.Shelf

theorem take_eq_next {α : Type} {S T : List α} {j : Nat} (h1 : j < S.length) (h2 : j < T.length) (he : S.take j = T.take j) (hx : S[j] = T[j]) : S.take (j + 1) = T.take (j + 1) := by
  rw [List.take_succ_eq_append_getElem h1, List.take_succ_eq_append_getElem h2, he, hx]
set_option maxRecDepth 100000 in
set_option maxHeartbeats 2000000 in
theorem eqspans_any (a b : Option Addr) (c d : Nat) (S T : List SpanV) (w : World) (h : SpansAt w a c S) (k : SpansAt w b d T) :
    Calls Tryd.prog 29 #[.slice a S.length c, .slice b T.length d] w fun e w' => e = .returned (.bool (decide (S = T))) ∧ New w w' := by
  have hr := h.room; have hc := h.cap; have kr := k.room; have kc := k.cap
  unfold maxLen at hc kc
  by_cases hlen : S.length = T.length
  · by_cases hz : 0 < S.length
    · obtain ⟨b1, o1, rfl, hb1, hc1⟩ := h.get hz
      obtain ⟨b2, o2, rfl, hb2, hc2⟩ := k.get (by omega)
      have HC1 := hid hc1; have HC2 := hid hc2
      clear h k hc1 hc2
      have HL := hid hlen
      rw [← hlen] at kr ⊢
      clear hlen
      obtain ⟨v, hv⟩ : ∃ v, v = decide (S = T) := ⟨_, rfl⟩
      rw [← hv]
      have HV := hid hv
      clear hv
      go_enter Tryd.func29, Tryd.ntmps29
      go_wp2
      go_loopw [13] (fun i wr => ∃ (j : Nat), i = .int .i64 j ∧ j ≤ S.length ∧ S.take j = T.take j ∧ New w wr) (fun i _ => S.length - (intOf i).toNat)
      case atStart => exact ⟨0, rfl, by omega, rfl, Mod.refl _ _⟩
      case round =>
        obtain ⟨j, rfl, hj, he, hn⟩ := hrel
        have HE := hid he
        have HN := hid hn
        clear he
        by_cases hlt : j < S.length
        · obtain ⟨x0, x1, x2⟩ := HC1.out j hlt
          obtain ⟨y0, y1, y2⟩ := HC2.out j (by have := HL.out; omega)
          have x0 := hn.cellv x0; have x1 := hn.cellv x1; have x2 := hn.cellv x2; have y0 := hn.cellv y0; have y1 := hn.cellv y1; have y2 := hn.cellv y2
          clear hn
          obtain ⟨s, hs⟩ : ∃ s, s = S[j] := ⟨_, rfl⟩
          obtain ⟨t, ht⟩ : ∃ t, t = T[j]'(by have := HL.out; omega) := ⟨_, rfl⟩
          rw [← hs] at x0 x1 x2
          rw [← ht] at y0 y1 y2
          have HS := hid hs; have HT := hid ht
          clear hs ht
          by_cases hst : s = t
          · subst hst
            go_wp2
            go_region_held3 (fun w' => w'.cell? ⟨b1, o1 + j * 3, none⟩ = some (.int .i64 s.file) ∧ w'.cell? ⟨b1, o1 + j * 3 + 1, none⟩ = some (.int .i64 s.frm) ∧ w'.cell? ⟨b1, o1 + j * 3 + 2, none⟩ = some (.int .i64 s.cnt) ∧ w'.cell? ⟨b2, o2 + j * 3, none⟩ = some (.int .i64 s.file) ∧ w'.cell? ⟨b2, o2 + j * 3 + 1, none⟩ = some (.int .i64 s.frm) ∧ w'.cell? ⟨b2, o2 + j * 3 + 2, none⟩ = some (.int .i64 s.cnt)) (go_keep) (fail)
            go_wp2
            go_roundw
            case rel => exact ⟨j + 1, by simp, by omega, take_eq_next hlt (by have := HL.out; omega) HE.out (HS.out.symm.trans HT.out), HN.out.drew⟩
            case measure => simp [intOf]; omega
          · have hne : decide (S = T) = false := by
              rw [decide_eq_false_iff_not]
              intro q
              subst q
              exact hst (HS.out.trans HT.out.symm)
            have HNE := hid (HV.out.trans hne)
            clear hne
            obtain ⟨sf, sr, sc⟩ := s
            obtain ⟨tf, tr, tc⟩ := t
            simp only at x0 x1 x2 y0 y1 y2
            have hor : sf ≠ tf ∨ (sf = tf ∧ sr ≠ tr) ∨ (sf = tf ∧ sr = tr ∧ sc ≠ tc) := by
              by_cases h1 : sf = tf
              · by_cases h2 : sr = tr
                · by_cases h3 : sc = tc
                  · exact absurd (by rw [h1, h2, h3]) hst
                  · exact .inr (.inr ⟨h1, h2, h3⟩)
                · exact .inr (.inl ⟨h1, h2⟩)
              · exact .inl h1
            clear hst HS HT
            rcases hor with h1 | ⟨rfl, h1⟩ | ⟨rfl, rfl, h1⟩
            all_goals go_wp2
            · go_region_held3 (fun w' => w'.cell? ⟨b1, o1 + j * 3, none⟩ = some (.int .i64 sf) ∧ w'.cell? ⟨b1, o1 + j * 3 + 1, none⟩ = some (.int .i64 sr) ∧ w'.cell? ⟨b1, o1 + j * 3 + 2, none⟩ = some (.int .i64 sc) ∧ w'.cell? ⟨b2, o2 + j * 3, none⟩ = some (.int .i64 tf) ∧ w'.cell? ⟨b2, o2 + j * 3 + 1, none⟩ = some (.int .i64 tr) ∧ w'.cell? ⟨b2, o2 + j * 3 + 2, none⟩ = some (.int .i64 tc)) (go_keep) (fail)
              go_wp2
              go_ret
              exact ⟨ret_bool HNE.out.symm, HN.out.drew⟩
            · go_region_held3 (fun w' => w'.cell? ⟨b1, o1 + j * 3, none⟩ = some (.int .i64 sf) ∧ w'.cell? ⟨b1, o1 + j * 3 + 1, none⟩ = some (.int .i64 sr) ∧ w'.cell? ⟨b1, o1 + j * 3 + 2, none⟩ = some (.int .i64 sc) ∧ w'.cell? ⟨b2, o2 + j * 3, none⟩ = some (.int .i64 sf) ∧ w'.cell? ⟨b2, o2 + j * 3 + 1, none⟩ = some (.int .i64 tr) ∧ w'.cell? ⟨b2, o2 + j * 3 + 2, none⟩ = some (.int .i64 tc)) (go_keep) (fail)
              go_wp2
              go_ret
              exact ⟨ret_bool HNE.out.symm, HN.out.drew⟩
            · go_region_held3 (fun w' => w'.cell? ⟨b1, o1 + j * 3, none⟩ = some (.int .i64 sf) ∧ w'.cell? ⟨b1, o1 + j * 3 + 1, none⟩ = some (.int .i64 sr) ∧ w'.cell? ⟨b1, o1 + j * 3 + 2, none⟩ = some (.int .i64 sc) ∧ w'.cell? ⟨b2, o2 + j * 3, none⟩ = some (.int .i64 sf) ∧ w'.cell? ⟨b2, o2 + j * 3 + 1, none⟩ = some (.int .i64 sr) ∧ w'.cell? ⟨b2, o2 + j * 3 + 2, none⟩ = some (.int .i64 tc)) (go_keep) (fail)
              go_wp2
              go_ret
              exact ⟨ret_bool HNE.out.symm, HN.out.drew⟩
        · have hjl : j = S.length := by omega
          have hjt : j = T.length := by have := HL.out; omega
          have hST : S = T := by
            have := HE.out
            rw [List.take_of_length_le (by omega), List.take_of_length_le (by omega)] at this
            exact this
          have hde : decide (S = T) = true := decide_eq_true hST
          have HDE := hid (HV.out.trans hde)
          clear hST hde hn
          go_wp2
          go_ret
          exact ⟨ret_bool HDE.out.symm, HN.out⟩
    · obtain rfl : S = [] := List.eq_nil_of_length_eq_zero (by omega)
      obtain rfl : T = [] := List.eq_nil_of_length_eq_zero (by simpa using hlen.symm)
      have hde : decide (([] : List SpanV) = []) = true := rfl
      rw [hde]
      clear h k hlen hde
      go_enter Tryd.func29, Tryd.ntmps29
      go_wp2
      refine wp_loop_rounds 1 ?_
      rw [rounds_succ]
      go_wp2
      go_ret
      exact ⟨rfl, Mod.refl _ _⟩
  · have hne : decide (S = T) = false := decide_eq_false (fun q => hlen (by rw [q]))
    rw [hne]
    clear h k hne
    have h1 : (decide ((S.length : Int) = (T.length : Int))) = false := decide_eq_false (by omega)
    go_enter Tryd.func29, Tryd.ntmps29
    go_wp2
    go_ret
    exact ⟨rfl, Mod.refl _ _⟩

set_option maxRecDepth 100000 in
set_option maxHeartbeats 2000000 in
theorem small_any (a : Option Addr) (c : Nat) (l : List FileV) (w : World) (h : FilesAt w a c l) :
    Calls Tryd.prog 26 #[.slice a l.length c] w fun e w' => (∃ v, e = .returned (.bool v)) ∧ New w w' := by
  have HL := hid (fun W (n : New w W) => light_any a c l W (h.new n))
  have hm1 := h.room; have hm2 := h.cap
  unfold maxLen at hm2
  by_cases hz : 0 < l.length
  · obtain ⟨b1, o1, rfl, hb1, hc1⟩ := h.get hz
    have HC1 := hid hc1
    clear h hc1
    go_enter Tryd.func26, Tryd.ntmps26
    go_wp2
    go_loopw [8, 3] (fun i n wr => ∃ (k : Nat) (x : Int), i = .int .i64 k ∧ n = .int .i64 x ∧ k ≤ l.length ∧ New w wr) (fun i _ _ => l.length - (intOf i).toNat)
    case atStart => exact ⟨0, 0, rfl, rfl, by omega, Mod.refl _ _⟩
    case round =>
      obtain ⟨k, x, rfl, rfl, hk, hn⟩ := hrel
      have HN := hid hn
      by_cases hlt : k < l.length
      · obtain ⟨pa, pc, g0, g1, g2, hst, -⟩ := (HC1.out k hlt).new hn
        clear hn hst
        obtain ⟨f, hf⟩ : ∃ f, f = l[k] := ⟨_, rfl⟩
        rw [← hf] at g0 g1 g2
        clear hf
        by_cases h1 : f.len < 0
        · go_wp2
          go_ret
          first | exact ⟨⟨_, rfl⟩, HN.out.alloc _⟩ | exact ⟨.inl rfl, HN.out.alloc _⟩ | exact ⟨.inr rfl, HN.out.alloc _⟩
        · by_cases h2 : 3000 < f.len
          · go_wp2
            go_ret
            first | exact ⟨⟨_, rfl⟩, HN.out.alloc _⟩ | exact ⟨.inl rfl, HN.out.alloc _⟩ | exact ⟨.inr rfl, HN.out.alloc _⟩
          · go_wp2
            exact ⟨⟨k + 1, _, by simp, rfl, by omega, HN.out.alloc _⟩, by simp [intOf]; omega⟩
      · clear hn
        go_wp2_with fail
        refine (HL.out _ HN.out).mono ?_
        rintro e w1 ⟨⟨v, rfl⟩, n1⟩
        have N1 := hid (HN.out.trans n1)
        clear n1
        cases v
        all_goals go_wp2
        all_goals go_ret
        all_goals first | exact ⟨⟨_, rfl⟩, N1.out⟩ | exact ⟨.inl rfl, N1.out⟩ | exact ⟨.inr rfl, N1.out⟩
  · obtain rfl : l = [] := List.eq_nil_of_length_eq_zero (by omega)
    clear h
    go_enter Tryd.func26, Tryd.ntmps26
    go_wp2
    refine wp_loop_rounds 1 ?_
    rw [rounds_succ]
    go_wp2_with fail
    refine (HL.out _ (Mod.refl _ _)).mono ?_
    rintro e w1 ⟨⟨v, rfl⟩, n1⟩
    have N1 := hid n1
    clear n1
    cases v
    all_goals go_wp2
    all_goals go_ret
    all_goals first | exact ⟨⟨_, rfl⟩, N1.out⟩ | exact ⟨.inl rfl, N1.out⟩ | exact ⟨.inr rfl, N1.out⟩
end Go.Proofs.YtnccfikimmolgaaDoor
