/-
  Several texts in one, in their build order. The closure that Pieces hands to IndexFunc, and IndexFunc with it: the first part that holds a span. Conditions: the parts lie as told, the span lies in a block of its own, and its numbers are small. The walk of the reference's Cut: a list of lists of spans that the call makes. Conditions: the list lies as told, its lengths are not below 0 and their sum is at most 65,536.
-/
import Derived.Test.YtnhgichiedninaaGreatDoorM25
import Derived.Test.YtnhgichiedninaaGreatDoorM18
import Derived.Test.YtnhgichiedninaaGreatDoorM4
import Derived.Test.YtnhgichiedninaaGreatDoorM23
import Derived.Laws.OwnMore
import Derived.Deep.AppendLies
namespace Go.Proofs.YtnhgichiedninaaGreatDoor
set_option linter.unusedSimpArgs false
set_option linter.unusedVariables false
open Go.RowKit

/-- The numbers of a span are small. -/
def SmallS (s : SpanV) : Prop := 0 ≤ s.frm ∧ 0 ≤ s.cnt ∧ s.frm + s.cnt ≤ 65536
theorem bool_same {a b : Bool} (h : a = b) : Ending.returned (.bool a) = .returned (.bool b) := by rw [h]
set_option maxHeartbeats 1000000 in
theorem inP_any (p s : SpanV) (X : Nat) (w : World) (hx : Blk w X #[.int .i64 s.file, .int .i64 s.frm, .int .i64 s.cnt] 113) (hs : SmallS s) (hp : SmallS p) :
    Calls Tryz.prog 68 #[spanV p, .pointer (some ⟨X, 0, none⟩)] w fun e w' => e = .returned (.bool (inP s p)) ∧ New w w' := by
  obtain ⟨pf, pr, pc⟩ := p
  obtain ⟨sf, sr, sc⟩ := s
  obtain ⟨s1, s2, s3⟩ := hs
  obtain ⟨p1, p2, p3⟩ := hp
  simp only at s1 s2 s3 p1 p2 p3 hx
  obtain ⟨V, hV⟩ : ∃ V, V = inP ⟨sf, sr, sc⟩ ⟨pf, pr, pc⟩ := ⟨_, rfl⟩
  rw [← hV]
  unfold inP at hV
  simp only at hV
  have c0 := hx.cellv 0 rfl; have c1 := hx.cellv 1 rfl; have c2 := hx.cellv 2 rfl; have cl := hx.lt
  have hw1 : IntKind.i64.wrap (sr + sc) = sr + sc := by rw [IntKind.wrap_i64]; omega
  have hw2 : IntKind.i64.wrap (pr + pc) = pr + pc := by rw [IntKind.wrap_i64]; omega
  clear hx
  by_cases h1 : pf = sf
  · have h1I : (pf == sf) = true := by rw [beq_iff_eq]; exact h1
    rw [decide_eq_true h1] at hV
    by_cases h2 : pr ≤ sr
    · have h2I : decide (pr ≤ sr) = true := decide_eq_true h2
      rw [h2I] at hV
      have HV := hid hV
      clear hV h1
      go_enter Tryz.func68, Tryz.ntmps68
      go_wp2
      go_ret
      exact ⟨bool_same (by rw [HV.out]; simp), (Mod.refl _ _).alloc _⟩
    · have h2I : decide (pr ≤ sr) = false := decide_eq_false h2
      rw [h2I] at hV
      have HV := hid hV
      clear hV h1
      go_enter Tryz.func68, Tryz.ntmps68
      go_wp2
      go_ret
      exact ⟨bool_same (by rw [HV.out]; simp), (Mod.refl _ _).alloc _⟩
  · have h1I : (pf == sf) = false := by rw [beq_eq_false_iff_ne]; exact h1
    rw [decide_eq_false h1] at hV
    have HV := hid hV
    clear hV h1
    go_enter Tryz.func68, Tryz.ntmps68
    go_wp2
    go_ret
    exact ⟨bool_same (by rw [HV.out]; simp), (Mod.refl _ _).alloc _⟩
/-- The number of the first part that holds the span, -1 if there is none. -/
def fxOf (parts : List SpanV) (s : SpanV) : Int := match parts.findIdx? (inP s) with
  | some k => k
  | none => -1
theorem fx_at {parts : List SpanV} {s : SpanV} {k : Nat} (hk : k < parts.length) (hb : ∀ (j : Nat) (hj : j < parts.length), j < k → inP s parts[j] = false) (h : inP s parts[k] = true) : (k : Int) = fxOf parts s := by
  have e : parts.findIdx? (inP s) = some k := List.findIdx?_eq_some_iff_getElem.2 ⟨hk, h, fun j hj => by simp [hb j (by omega) hj]⟩
  unfold fxOf
  rw [e]
theorem fx_none {parts : List SpanV} {s : SpanV} {k : Nat} (hk : ¬ k < parts.length) (hb : ∀ (j : Nat) (hj : j < parts.length), j < k → inP s parts[j] = false) : (-1 : Int) = fxOf parts s := by
  have e : parts.findIdx? (inP s) = none := by
    rw [List.findIdx?_eq_none_iff]
    intro x hx
    obtain ⟨j, hj, rfl⟩ := List.mem_iff_getElem.1 hx
    exact hb j hj (by omega)
  unfold fxOf
  rw [e]
set_option maxHeartbeats 2000000 in
theorem pindex_any (pa : Option Addr) (pc : Nat) (parts : List SpanV) (s : SpanV) (X : Nat) (w : World) (hp : SpansAt w pa pc parts) (hx : Blk w X #[.int .i64 s.file, .int .i64 s.frm, .int .i64 s.cnt] 113) (hs : SmallS s) (hps : ∀ p ∈ parts, SmallS p) :
    Calls Tryz.prog 67 #[.slice pa parts.length pc, .func (.func 68) #[] #[.pointer (some ⟨X, 0, none⟩)]] w fun e w' => e = .returned (.int .i64 (fxOf parts s)) ∧ New w w' := by
  have hm1 := hp.room; have hm2 := hp.cap
  unfold maxLen at hm2
  have HIN := hid (fun (p : SpanV) W (q : p ∈ parts) (n : New w W) => inP_any p s X W (New.blk n hx) hs (hps p q))
  by_cases hz : 0 < parts.length
  · obtain ⟨b1, o1, rfl, hb1, hc1⟩ := hp.get hz
    have HC1 := hid hc1
    clear hp hc1 hs hps hx
    go_enter Tryz.func67, Tryz.ntmps67
    go_wp2
    go_loopw [8] (fun i wr => ∃ k : Nat, i = .int .i64 k ∧ k ≤ parts.length ∧ (∀ (j : Nat) (hj : j < parts.length), j < k → inP s parts[j] = false) ∧ New w wr) (fun i _ => parts.length - (intOf i).toNat)
    case atStart => exact ⟨0, rfl, by omega, by intros; omega, Mod.refl _ _⟩
    case round =>
      obtain ⟨k, rfl, hk, hb, hn⟩ := hrel
      have HB := hid hb; have HN := hid hn
      clear hb
      by_cases hlt : k < parts.length
      · obtain ⟨g0, g1, g2⟩ := HC1.out k hlt
        have g0 := hn.cellv g0; have g1 := hn.cellv g1; have g2 := hn.cellv g2
        have HP := hid (HIN.out parts[k] wr (List.getElem_mem hlt) hn)
        obtain ⟨p, hpe⟩ : ∃ p, p = parts[k] := ⟨_, rfl⟩
        have HPE := hid hpe
        rw [← hpe] at g0 g1 g2 HP
        clear hpe hn
        have hsv : spanV p = .agg #[.int .i64 p.file, .int .i64 p.frm, .int .i64 p.cnt] := rfl
        rw [hsv] at HP
        clear hsv
        cases he : inP s p with
        | false =>
          rw [he] at HP
          have HE := hid he
          clear he
          go_wp2_with (go_at_call 68; refine HP.out.mono ?_; rintro e w1 ⟨rfl, n1⟩; have N1 := hid n1; clear n1)
          exact ⟨⟨k + 1, by simp, by omega, fun j hj h => by rcases Nat.lt_succ_iff_lt_or_eq.1 h with h | h; exact HB.out j hj h; subst h; rw [← HPE.out]; exact HE.out, HN.out.trans N1.out⟩, by simp [intOf]; omega⟩
        | true =>
          rw [he] at HP
          have HE := hid (fx_at hlt HB.out (by rw [← HPE.out]; exact he))
          clear he
          go_wp2_with (go_at_call 68; refine HP.out.mono ?_; rintro e w1 ⟨rfl, n1⟩; have N1 := hid n1; clear n1)
          go_ret
          exact ⟨ret_int HE.out, HN.out.trans N1.out⟩
      · have HE := hid (fx_none hlt HB.out)
        clear hn
        go_wp2
        go_ret
        exact ⟨ret_int HE.out, HN.out⟩
  · obtain rfl : parts = [] := List.eq_nil_of_length_eq_zero (by omega)
    clear hp hs hps hx HIN
    go_enter Tryz.func67, Tryz.ntmps67
    go_wp2
    refine wp_loop_rounds 1 ?_
    rw [rounds_succ]
    go_wp2
    go_ret
    exact ⟨rfl, Mod.refl _ _⟩
end Go.Proofs.YtnhgichiedninaaGreatDoor

namespace Go.Proofs.YtnhgichiedninaaGreatDoor
set_option linter.unusedSimpArgs false
set_option linter.unusedVariables false
open Go.RowKit Go.Shelf

/-- The slice v, of the call's own memory from block base on, holds the lists of spans out; vs are its cells. -/
structure OwnSS (w : World) (base : Nat) (v : Value) (out : List (List SpanV)) (vs : List Value) : Prop where
  row : w.ownsRow base 65 1 v out.length vs
  len : vs.length = out.length
  each : ∀ (i : Nat) (S : List SpanV) (u : Value), out[i]? = some S → vs[i]? = some u → OwnS w base u S
  apart : ∀ (i j : Nat) (u u' : Value), i ≠ j → vs[i]? = some u → vs[j]? = some u' → u.ownBlock = none ∨ u.ownBlock ≠ u'.ownBlock
theorem OwnSS.nil (w : World) (base : Nat) : OwnSS w base (.slice none 0 0) [] [] := ⟨World.ownsRow_nil _ _ _ _, rfl, by simp, by simp⟩
theorem owns_sep {w : World} {base base' : Nat} {e e' : TypeId} {s s' : Nat} {v u : Value} {n n' : Nat} {xs xs' : List Value} (h : w.ownsRow base e s v n xs) (k : w.ownsRow base' e' s' u n' xs') (he : e ≠ e') : u.ownBlock = none ∨ u.ownBlock ≠ v.ownBlock := by
  rcases h.2 with ⟨rfl, -⟩ | ⟨g, cap, cur, rfl, -, hg, -⟩
  · cases hu : u.ownBlock with
    | none => exact .inl rfl
    | some x => exact .inr (by simp [Value.ownBlock])
  · exact .inr (fun q => owns_ne k hg (by intro cur' q'; cases q'; exact he rfl) q.symm)
theorem OwnSS.new {w w' : World} {base : Nat} {v : Value} {out : List (List SpanV)} {vs : List Value} (h : OwnSS w base v out vs) (n : New w w') : OwnSS w' base v out vs :=
  ⟨owns_mod h.row n (fun _ _ q => q), h.len, fun i S u h1 h2 => owns_mod (h.each i S u h1 h2) n (fun _ _ q => q), h.apart⟩
theorem OwnSS.each_at {w : World} {base : Nat} {v : Value} {out : List (List SpanV)} {vs : List Value} (h : OwnSS w base v out vs) {i : Nat} {u : Value} (hu : vs[i]? = some u) : ∃ S, out[i]? = some S ∧ OwnS w base u S := by
  have hi : i < out.length := by have := (List.getElem?_eq_some_iff.1 hu).1; have := h.len; omega
  exact ⟨out[i], List.getElem?_eq_getElem hi, h.each i _ u (List.getElem?_eq_getElem hi) hu⟩
theorem OwnSS.push {w w' : World} {base : Nat} {v v' : Value} {out : List (List SpanV)} {vs : List Value} (h : OwnSS w base v out vs) (hr : w'.ownsRow base 65 1 v' (out.length + 1) (vs ++ [.slice none 0 0])) (hg : w.grownBy w' v.ownBlock) : OwnSS w' base v' (out ++ [[]]) (vs ++ [.slice none 0 0]) := by
  refine ⟨by simpa using hr, by simp [h.len], ?_, ?_⟩
  · intro i S u hS hu
    rcases Nat.lt_or_ge i out.length with hi | hi
    · rw [List.getElem?_append_left hi] at hS
      rw [List.getElem?_append_left (by have := h.len; omega)] at hu
      have hk := h.each i S u hS hu
      exact World.ownsRow.kept hk hg (owns_sep h.row hk (by decide))
    · rw [List.getElem?_append_right hi] at hS
      rw [List.getElem?_append_right (by have := h.len; omega)] at hu
      have hlen := h.len
      have h0 : i - out.length = 0 := by have := (List.getElem?_eq_some_iff.1 hS).1; simp at this; omega
      rw [h0] at hS
      rw [hlen, h0] at hu
      simp at hS hu
      subst hS hu
      exact OwnS.nil _ _
  · intro i j u u' hij hu hu'
    have key : ∀ (i : Nat) (u : Value), (vs ++ [Value.slice none 0 0])[i]? = some u → vs[i]? = some u ∨ u.ownBlock = none := by
      intro i u hu
      rcases Nat.lt_or_ge i vs.length with hi | hi
      · rw [List.getElem?_append_left hi] at hu; exact .inl hu
      · rw [List.getElem?_append_right hi] at hu
        have h0 : i - vs.length = 0 := by have := (List.getElem?_eq_some_iff.1 hu).1; simp at this; omega
        rw [h0] at hu
        simp at hu
        subst hu
        exact .inr rfl
    rcases key i u hu with h1 | h1
    · rcases key j u' hu' with h2 | h2
      · exact h.apart i j u u' hij h1 h2
      · rw [h2]
        cases hq : u.ownBlock with
        | none => exact .inl rfl
        | some x => exact .inr (by simp)
    · exact .inl h1
theorem OwnSS.last {w w' : World} {base g n cap : Nat} {out : List (List SpanV)} {vs : List Value} {S : List SpanV} {s : SpanV} {u u' : Value} (h : OwnSS w base (.slice (some ⟨g, 0, none⟩) n cap) (out ++ [S]) (vs ++ [u])) (hr : w'.ownsRow base 113 3 u' (S.length + 1) (spanRow S ++ spanCells s)) (hg : w.grownBy w' u.ownBlock) (hl : u'.ownBlock = u.ownBlock ∨ u'.ownBlock = some w.heap.size) :
    OwnSS (w'.setCell ⟨g, out.length, none⟩ u') base (.slice (some ⟨g, 0, none⟩) n cap) (out ++ [S ++ [s]]) (vs ++ [u']) := by
  have hlen : vs.length = out.length := by have := h.len; simpa using this
  have hn : n = out.length + 1 := by
    rcases h.row.2 with ⟨q, -⟩ | ⟨_, _, _, q, -⟩
    · cases q
    · cases q; simp
  have hu := h.each out.length S u (by simp) (by rw [← hlen]; simp)
  have hr1 : w'.ownsRow base 65 1 (.slice (some ⟨g, 0, none⟩) n cap) n (vs ++ [u]) := by
    have := World.ownsRow.kept h.row hg (owns_sep hu h.row (by decide))
    rw [List.length_append, List.length_singleton, ← hn] at this
    exact this
  obtain ⟨hs1, hs2⟩ := World.ownsRow.stored hr1 out.length u'
  rw [show (vs ++ [u]).set out.length u' = vs ++ [u'] by rw [← hlen]; simp] at hs1
  have hgu : some g ≠ u'.ownBlock := by
    rcases owns_sep hr1 hr (by decide) with q | q
    · rw [q]; simp
    · simpa [Value.ownBlock] using q.symm
  refine ⟨by rw [List.length_append, List.length_singleton, ← hn]; exact hs1, by simp [hlen], ?_, ?_⟩
  · intro i T x hT hx
    rcases Nat.lt_or_ge i out.length with hi | hi
    · rw [List.getElem?_append_left hi] at hT
      rw [List.getElem?_append_left (by omega)] at hx
      have hk := h.each i T x (by rw [List.getElem?_append_left hi]; exact hT) (by rw [List.getElem?_append_left (by omega)]; exact hx)
      have ha := h.apart i out.length x u (by omega) (by rw [List.getElem?_append_left (by omega)]; exact hx) (by rw [← hlen]; simp)
      have hk1 : OwnS w' base x T := World.ownsRow.kept hk hg ha
      exact World.ownsRow.kept hk1 hs2 (owns_sep hr1 hk1 (by decide))
    · rw [List.getElem?_append_right hi] at hT
      rw [List.getElem?_append_right (by omega)] at hx
      have h0 : i - out.length = 0 := by have := (List.getElem?_eq_some_iff.1 hT).1; simp at this; omega
      rw [h0] at hT
      rw [hlen, h0] at hx
      simp at hT hx
      subst hT hx
      have : OwnS w' base u' (S ++ [s]) := by unfold OwnS; simpa [spanRow] using hr
      exact World.ownsRow.kept this hs2 (.inr (fun q => hgu q.symm))
  · have key : ∀ (i : Nat) (x : Value), (vs ++ [u'])[i]? = some x → (i < vs.length ∧ vs[i]? = some x) ∨ (i = vs.length ∧ x = u') := by
      intro i x hx
      rcases Nat.lt_or_ge i vs.length with hi | hi
      · rw [List.getElem?_append_left hi] at hx; exact .inl ⟨hi, hx⟩
      · rw [List.getElem?_append_right hi] at hx
        have h0 : i - vs.length = 0 := by have := (List.getElem?_eq_some_iff.1 hx).1; simp at this; omega
        rw [h0] at hx
        simp at hx
        exact .inr ⟨by omega, hx.symm⟩
    have old : ∀ (i : Nat) (x : Value), i < vs.length → vs[i]? = some x → x.ownBlock = none ∨ x.ownBlock ≠ u'.ownBlock := by
      intro i x hi hx
      have ha := h.apart i vs.length x u (by omega) (by rw [List.getElem?_append_left hi]; exact hx) (by simp)
      rcases hl with q | q
      · rw [q]; exact ha
      · rw [q]
        obtain ⟨T, -, hk⟩ := h.each_at (i := i) (u := x) (by rw [List.getElem?_append_left hi]; exact hx)
        cases hq : x.ownBlock with
        | none => exact .inl rfl
        | some y =>
          have := (World.ownsRow.lt hk y hq).2
          exact .inr (by simp; omega)
    intro i j x y hij hx hy
    rcases key i x hx with ⟨a1, a2⟩ | ⟨a1, rfl⟩
    · rcases key j y hy with ⟨b1, b2⟩ | ⟨b1, rfl⟩
      · exact h.apart i j x y hij (by rw [List.getElem?_append_left a1]; exact a2) (by rw [List.getElem?_append_left b1]; exact b2)
      · exact old i x a1 a2
    · rcases key j y hy with ⟨b1, b2⟩ | ⟨b1, rfl⟩
      · rcases old j y b1 b2 with q | q
        · rw [q]
          cases hq : x.ownBlock with
          | none => exact .inl rfl
          | some z => exact .inr (by simp)
        · exact .inr (fun e => q e.symm)
      · omega
/-- What may be turned behind both. -/
theorem OwnSS.lt {w : World} {base : Nat} {v : Value} {out : List (List SpanV)} {vs : List Value} (h : OwnSS w base v out vs) : (∀ k, v.ownBlock = some k → base ≤ k) ∧ ∀ u ∈ vs, ∀ k, u.ownBlock = some k → base ≤ k := by
  refine ⟨fun k hk => (h.row.lt k hk).1, fun u hu k hk => ?_⟩
  obtain ⟨i, hi⟩ := List.getElem?_of_mem hu
  obtain ⟨S, -, hS⟩ := h.each_at hi
  exact (World.ownsRow.lt hS k hk).1
end Go.Proofs.YtnhgichiedninaaGreatDoor
