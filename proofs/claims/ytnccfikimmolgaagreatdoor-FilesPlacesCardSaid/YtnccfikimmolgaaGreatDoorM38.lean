/-
  Several texts in one, in their build order. The law's comparison of two lists of spans; Small. Conditions: as they stand. The walk of the reference's Cut: a list of lists of spans that the call makes. Conditions: the list lies as told, its lengths are not below 0 and their sum is at most 65,536.
-/
import Derived.Test.YtnccfikimmolgaaGreatDoorM34
import Derived.Test.YtnccfikimmolgaaGreatDoorM26
import Derived.Deep.QuietTactic
import Derived.BigQuiet
import Derived.Laws.OwnMore
import Derived.Deep.AppendLies
namespace Go.Proofs.YtnccfikimmolgaaGreatDoor
set_option linter.unusedSimpArgs false
set_option linter.unusedVariables false
open Go.RowKit Go.Shelf

theorem take_eq_next {α : Type} {S T : List α} {j : Nat} (h1 : j < S.length) (h2 : j < T.length) (he : S.take j = T.take j) (hx : S[j] = T[j]) : S.take (j + 1) = T.take (j + 1) := by
  rw [List.take_succ_eq_append_getElem h1, List.take_succ_eq_append_getElem h2, he, hx]
set_option maxRecDepth 100000 in
set_option maxHeartbeats 2000000 in
theorem small_any (a : Option Addr) (c : Nat) (l : List FileV) (w : World) (h : FilesAt w a c l) :
    Calls Tryz.prog 5 #[.slice a l.length c] w fun e w' => (∃ v, e = .returned (.bool v)) ∧ New w w' := by
  have HL := hid (fun W (n : New w W) => light_any a c l W (h.new n))
  have hm1 := h.room; have hm2 := h.cap
  unfold maxLen at hm2
  by_cases hz : 0 < l.length
  · obtain ⟨b1, o1, rfl, hb1, hc1⟩ := h.get hz
    have HC1 := hid hc1
    clear h hc1
    go_enter Tryz.func5, Tryz.ntmps5
    go_wp2
    go_loopw [8, 3] (fun i n wr => ∃ (k : Nat) (x : Int), i = .int .i64 k ∧ n = .int .i64 x ∧ k ≤ l.length ∧ New w wr) (fun i _ _ => l.length - (intOf i).toNat)
    case atStart => exact ⟨0, 0, rfl, rfl, by omega, Mod.refl _ _⟩
    case round =>
      obtain ⟨k, x, rfl, rfl, hk, hn⟩ := hrel
      have HN := hid hn
      by_cases hlt : k < l.length
      · obtain ⟨pa, pc, g0, g1, g2, hst, -⟩ := (HC1.out k hlt).new hn
        clear hn hst
        obtain ⟨f, hf⟩ : ∃ f, f = l[k] := ⟨_, rfl⟩
        rw [← hf] at g0 g1 g2
        clear hf
        by_cases h1 : f.len < 0
        · go_wp2
          go_ret
          first | exact ⟨⟨_, rfl⟩, HN.out.alloc _⟩ | exact ⟨.inl rfl, HN.out.alloc _⟩ | exact ⟨.inr rfl, HN.out.alloc _⟩
        · by_cases h2 : 3000 < f.len
          · go_wp2
            go_ret
            first | exact ⟨⟨_, rfl⟩, HN.out.alloc _⟩ | exact ⟨.inl rfl, HN.out.alloc _⟩ | exact ⟨.inr rfl, HN.out.alloc _⟩
          · go_wp2
            exact ⟨⟨k + 1, _, by simp, rfl, by omega, HN.out.alloc _⟩, by simp [intOf]; omega⟩
      · clear hn
        go_wp2_with fail
        refine (HL.out _ HN.out).mono ?_
        rintro e w1 ⟨⟨v, rfl⟩, n1⟩
        have N1 := hid (HN.out.trans n1)
        clear n1
        cases v
        all_goals go_wp2
        all_goals go_ret
        all_goals first | exact ⟨⟨_, rfl⟩, N1.out⟩ | exact ⟨.inl rfl, N1.out⟩ | exact ⟨.inr rfl, N1.out⟩
  · obtain rfl : l = [] := List.eq_nil_of_length_eq_zero (by omega)
    clear h
    go_enter Tryz.func5, Tryz.ntmps5
    go_wp2
    refine wp_loop_rounds 1 ?_
    rw [rounds_succ]
    go_wp2_with fail
    refine (HL.out _ (Mod.refl _ _)).mono ?_
    rintro e w1 ⟨⟨v, rfl⟩, n1⟩
    have N1 := hid n1
    clear n1
    cases v
    all_goals go_wp2
    all_goals go_ret
    all_goals first | exact ⟨⟨_, rfl⟩, N1.out⟩ | exact ⟨.inl rfl, N1.out⟩ | exact ⟨.inr rfl, N1.out⟩
end Go.Proofs.YtnccfikimmolgaaGreatDoor

namespace Go.Proofs.YtnccfikimmolgaaGreatDoor
set_option linter.unusedSimpArgs false
set_option linter.unusedVariables false
open Go.RowKit Go.Shelf

/-- The slice v, of the call's own memory from block base on, holds the lists of spans out; vs are its cells. -/
structure OwnSS (w : World) (base : Nat) (v : Value) (out : List (List SpanV)) (vs : List Value) : Prop where
  row : w.ownsRow base 36 1 v out.length vs
  len : vs.length = out.length
  each : ∀ (i : Nat) (S : List SpanV) (u : Value), out[i]? = some S → vs[i]? = some u → OwnS w base u S
  apart : ∀ (i j : Nat) (u u' : Value), i ≠ j → vs[i]? = some u → vs[j]? = some u' → u.ownBlock = none ∨ u.ownBlock ≠ u'.ownBlock
theorem OwnSS.nil (w : World) (base : Nat) : OwnSS w base (.slice none 0 0) [] [] := ⟨World.ownsRow_nil _ _ _ _, rfl, by simp, by simp⟩
theorem owns_sep {w : World} {base base' : Nat} {e e' : TypeId} {s s' : Nat} {v u : Value} {n n' : Nat} {xs xs' : List Value} (h : w.ownsRow base e s v n xs) (k : w.ownsRow base' e' s' u n' xs') (he : e ≠ e') : u.ownBlock = none ∨ u.ownBlock ≠ v.ownBlock := by
  rcases h.2 with ⟨rfl, -⟩ | ⟨g, cap, cur, rfl, -, hg, -⟩
  · cases hu : u.ownBlock with
    | none => exact .inl rfl
    | some x => exact .inr (by simp [Value.ownBlock])
  · exact .inr (fun q => owns_ne k hg (by intro cur' q'; cases q'; exact he rfl) q.symm)
theorem OwnSS.new {w w' : World} {base : Nat} {v : Value} {out : List (List SpanV)} {vs : List Value} (h : OwnSS w base v out vs) (n : New w w') : OwnSS w' base v out vs :=
  ⟨owns_mod h.row n (fun _ _ q => q), h.len, fun i S u h1 h2 => owns_mod (h.each i S u h1 h2) n (fun _ _ q => q), h.apart⟩
theorem OwnSS.each_at {w : World} {base : Nat} {v : Value} {out : List (List SpanV)} {vs : List Value} (h : OwnSS w base v out vs) {i : Nat} {u : Value} (hu : vs[i]? = some u) : ∃ S, out[i]? = some S ∧ OwnS w base u S := by
  have hi : i < out.length := by have := (List.getElem?_eq_some_iff.1 hu).1; have := h.len; omega
  exact ⟨out[i], List.getElem?_eq_getElem hi, h.each i _ u (List.getElem?_eq_getElem hi) hu⟩
theorem OwnSS.push {w w' : World} {base : Nat} {v v' : Value} {out : List (List SpanV)} {vs : List Value} (h : OwnSS w base v out vs) (hr : w'.ownsRow base 36 1 v' (out.length + 1) (vs ++ [.slice none 0 0])) (hg : w.grownBy w' v.ownBlock) : OwnSS w' base v' (out ++ [[]]) (vs ++ [.slice none 0 0]) := by
  refine ⟨by simpa using hr, by simp [h.len], ?_, ?_⟩
  · intro i S u hS hu
    rcases Nat.lt_or_ge i out.length with hi | hi
    · rw [List.getElem?_append_left hi] at hS
      rw [List.getElem?_append_left (by have := h.len; omega)] at hu
      have hk := h.each i S u hS hu
      exact World.ownsRow.kept hk hg (owns_sep h.row hk (by decide))
    · rw [List.getElem?_append_right hi] at hS
      rw [List.getElem?_append_right (by have := h.len; omega)] at hu
      have hlen := h.len
      have h0 : i - out.length = 0 := by have := (List.getElem?_eq_some_iff.1 hS).1; simp at this; omega
      rw [h0] at hS
      rw [hlen, h0] at hu
      simp at hS hu
      subst hS hu
      exact OwnS.nil _ _
  · intro i j u u' hij hu hu'
    have key : ∀ (i : Nat) (u : Value), (vs ++ [Value.slice none 0 0])[i]? = some u → vs[i]? = some u ∨ u.ownBlock = none := by
      intro i u hu
      rcases Nat.lt_or_ge i vs.length with hi | hi
      · rw [List.getElem?_append_left hi] at hu; exact .inl hu
      · rw [List.getElem?_append_right hi] at hu
        have h0 : i - vs.length = 0 := by have := (List.getElem?_eq_some_iff.1 hu).1; simp at this; omega
        rw [h0] at hu
        simp at hu
        subst hu
        exact .inr rfl
    rcases key i u hu with h1 | h1
    · rcases key j u' hu' with h2 | h2
      · exact h.apart i j u u' hij h1 h2
      · rw [h2]
        cases hq : u.ownBlock with
        | none => exact .inl rfl
        | some x => exact .inr (by simp)
    · exact .inl h1
theorem OwnSS.last {w w' : World} {base g n cap : Nat} {out : List (List SpanV)} {vs : List Value} {S : List SpanV} {s : SpanV} {u u' : Value} (h : OwnSS w base (.slice (some ⟨g, 0, none⟩) n cap) (out ++ [S]) (vs ++ [u])) (hr : w'.ownsRow base 40 3 u' (S.length + 1) (spanRow S ++ spanCells s)) (hg : w.grownBy w' u.ownBlock) (hl : u'.ownBlock = u.ownBlock ∨ u'.ownBlock = some w.heap.size) :
    OwnSS (w'.setCell ⟨g, out.length, none⟩ u') base (.slice (some ⟨g, 0, none⟩) n cap) (out ++ [S ++ [s]]) (vs ++ [u']) := by
  have hlen : vs.length = out.length := by have := h.len; simpa using this
  have hn : n = out.length + 1 := by
    rcases h.row.2 with ⟨q, -⟩ | ⟨_, _, _, q, -⟩
    · cases q
    · cases q; simp
  have hu := h.each out.length S u (by simp) (by rw [← hlen]; simp)
  have hr1 : w'.ownsRow base 36 1 (.slice (some ⟨g, 0, none⟩) n cap) n (vs ++ [u]) := by
    have := World.ownsRow.kept h.row hg (owns_sep hu h.row (by decide))
    rw [List.length_append, List.length_singleton, ← hn] at this
    exact this
  obtain ⟨hs1, hs2⟩ := World.ownsRow.stored hr1 out.length u'
  rw [show (vs ++ [u]).set out.length u' = vs ++ [u'] by rw [← hlen]; simp] at hs1
  have hgu : some g ≠ u'.ownBlock := by
    rcases owns_sep hr1 hr (by decide) with q | q
    · rw [q]; simp
    · simpa [Value.ownBlock] using q.symm
  refine ⟨by rw [List.length_append, List.length_singleton, ← hn]; exact hs1, by simp [hlen], ?_, ?_⟩
  · intro i T x hT hx
    rcases Nat.lt_or_ge i out.length with hi | hi
    · rw [List.getElem?_append_left hi] at hT
      rw [List.getElem?_append_left (by omega)] at hx
      have hk := h.each i T x (by rw [List.getElem?_append_left hi]; exact hT) (by rw [List.getElem?_append_left (by omega)]; exact hx)
      have ha := h.apart i out.length x u (by omega) (by rw [List.getElem?_append_left (by omega)]; exact hx) (by rw [← hlen]; simp)
      have hk1 : OwnS w' base x T := World.ownsRow.kept hk hg ha
      exact World.ownsRow.kept hk1 hs2 (owns_sep hr1 hk1 (by decide))
    · rw [List.getElem?_append_right hi] at hT
      rw [List.getElem?_append_right (by omega)] at hx
      have h0 : i - out.length = 0 := by have := (List.getElem?_eq_some_iff.1 hT).1; simp at this; omega
      rw [h0] at hT
      rw [hlen, h0] at hx
      simp at hT hx
      subst hT hx
      have : OwnS w' base u' (S ++ [s]) := by unfold OwnS; simpa [spanRow] using hr
      exact World.ownsRow.kept this hs2 (.inr (fun q => hgu q.symm))
  · have key : ∀ (i : Nat) (x : Value), (vs ++ [u'])[i]? = some x → (i < vs.length ∧ vs[i]? = some x) ∨ (i = vs.length ∧ x = u') := by
      intro i x hx
      rcases Nat.lt_or_ge i vs.length with hi | hi
      · rw [List.getElem?_append_left hi] at hx; exact .inl ⟨hi, hx⟩
      · rw [List.getElem?_append_right hi] at hx
        have h0 : i - vs.length = 0 := by have := (List.getElem?_eq_some_iff.1 hx).1; simp at this; omega
        rw [h0] at hx
        simp at hx
        exact .inr ⟨by omega, hx.symm⟩
    have old : ∀ (i : Nat) (x : Value), i < vs.length → vs[i]? = some x → x.ownBlock = none ∨ x.ownBlock ≠ u'.ownBlock := by
      intro i x hi hx
      have ha := h.apart i vs.length x u (by omega) (by rw [List.getElem?_append_left hi]; exact hx) (by simp)
      rcases hl with q | q
      · rw [q]; exact ha
      · rw [q]
        obtain ⟨T, -, hk⟩ := h.each_at (i := i) (u := x) (by rw [List.getElem?_append_left hi]; exact hx)
        cases hq : x.ownBlock with
        | none => exact .inl rfl
        | some y =>
          have := (World.ownsRow.lt hk y hq).2
          exact .inr (by simp; omega)
    intro i j x y hij hx hy
    rcases key i x hx with ⟨a1, a2⟩ | ⟨a1, rfl⟩
    · rcases key j y hy with ⟨b1, b2⟩ | ⟨b1, rfl⟩
      · exact h.apart i j x y hij (by rw [List.getElem?_append_left a1]; exact a2) (by rw [List.getElem?_append_left b1]; exact b2)
      · exact old i x a1 a2
    · rcases key j y hy with ⟨b1, b2⟩ | ⟨b1, rfl⟩
      · rcases old j y b1 b2 with q | q
        · rw [q]
          cases hq : x.ownBlock with
          | none => exact .inl rfl
          | some z => exact .inr (by simp)
        · exact .inr (fun e => q e.symm)
      · omega
/-- What may be turned behind both. -/
theorem OwnSS.lt {w : World} {base : Nat} {v : Value} {out : List (List SpanV)} {vs : List Value} (h : OwnSS w base v out vs) : (∀ k, v.ownBlock = some k → base ≤ k) ∧ ∀ u ∈ vs, ∀ k, u.ownBlock = some k → base ≤ k := by
  refine ⟨fun k hk => (h.row.lt k hk).1, fun u hu k hk => ?_⟩
  obtain ⟨i, hi⟩ := List.getElem?_of_mem hu
  obtain ⟨S, -, hS⟩ := h.each_at hi
  exact (World.ownsRow.lt hS k hk).1
end Go.Proofs.YtnccfikimmolgaaGreatDoor
