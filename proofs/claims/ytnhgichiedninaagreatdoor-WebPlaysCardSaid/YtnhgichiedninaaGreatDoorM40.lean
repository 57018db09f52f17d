/-
  Several texts in one, in their build order. Each deed of both clients in one word: they answer alike, and are alike behind it. Conditions: both lie as told and are alike. The laws' own guard (coveylaw30.light): few texts, pieces and acts, within bounds. Conditions: the lists lie as told. A strings.Builder that the call made: what it holds, and what writing and reading it do. Conditions: as they stand (lengths).
-/
import Derived.Test.YtnhgichiedninaaGreatDoorM39
import Derived.Test.YtnhgichiedninaaGreatDoorM16
import Derived.Test.YtnhgichiedninaaGreatDoorM3
import Derived.Test.YtnhgichiedninaaGreatDoorM19
import Derived.Test.YtnhgichiedninaaGreatDoorM1
import Derived.Shelf.Strings.BuilderK
namespace Go.Proofs.YtnhgichiedninaaGreatDoor
set_option linter.unusedSimpArgs false
set_option linter.unusedVariables false
open Go.RowKit Go.Shelf

/-- Behind a deed of the client. -/
def CDone (w' w : World) (B SB cap MB : Nat) (ps : List Nat) (c : CliV) (f : Nat → Option Nat) : Prop := ∃ G', CliAt w' B SB cap MB ps c G' ∧ GvAt G' f ∧ Mod (CliT B MB ps) w w'
def RDone (w' w : World) (R WB wc DB dc GB gc : Nat) (r : RefV) : Prop := RefAt w' R WB wc DB dc GB gc r ∧ Mod (RefT R WB DB GB) w w'
theorem took_facts {c : CliV} {now web : Int} (h : c.tookE now web = 0) : c.atE now = 0 ∧ ∃ (k : Nat) (s : SeedV), web = k ∧ c.seeds[k]? = some s ∧ s.under = true := by
  unfold CliV.tookE at h
  by_cases g : web < 0 ∨ (c.seeds.length : Int) ≤ web
  · rw [if_pos g] at h; cases h
  · rw [if_neg g] at h
    by_cases g2 : c.atE now ≠ 0
    · rw [if_pos g2] at h; exact absurd h g2
    · rw [if_neg g2] at h
      have hlt : web.toNat < c.seeds.length := by omega
      have hs := List.getElem?_eq_getElem hlt
      rw [hs] at h
      simp only at h
      refine ⟨by simpa using g2, web.toNat, _, by omega, hs, ?_⟩
      cases hu : c.seeds[web.toNat].under with
      | true => rfl
      | false => rw [hu] at h; simp at h
theorem both_took (B SB cap MB : Nat) (ps : List Nat) (c : CliV) (G : List (Value × Value)) (f : Nat → Option Nat) (R WB wc DB dc GB gc : Nat) (r : RefV) (N now web : Int) (w : World) (h : CliAt w B SB cap MB ps c G) (hG : GvAt G f) (hA : Alk N c f r) :
    ∃ (x y E : Int) (c' : CliV) (f' : Nat → Option Nat) (r' : RefV), Alk (N + 1) c' f' r' ∧
      Calls Tryz.prog 12 #[.pointer (some ⟨B, 0, none⟩), .int .i64 now, .int .i64 web] w (fun e w' => e = .returned (.tuple #[.agg #[.int .i64 x, .int .i64 y], .int .i64 E]) ∧ CDone w' w B SB cap MB ps c' f') ∧
      ∀ W, RefAt W R WB wc DB dc GB gc r → Calls Tryz.prog 14 #[.pointer (some ⟨R, 0, none⟩), .int .i64 now, .int .i64 web] W fun e w' => e = .returned (.tuple #[.agg #[.int .i64 x, .int .i64 y], .int .i64 E]) ∧ RDone w' W R WB wc DB dc GB gc r' := by
  by_cases g : c.tookE now web = 0
  · obtain ⟨h1, k, s, rfl, hs, hu⟩ := took_facts g
    have ht := at_time h1
    have h0 := hA.now0
    have e3 : (toW s).frm = s.frm := by unfold toW; rw [hu]; rfl
    have e4 : (toW s).cnt = s.cnt := by unfold toW; rw [hu]; rfl
    refine ⟨s.frm, s.cnt, 0, _, _, _, (hA.took (now := now) (by omega) hs hu).mono (by omega), ctook_yes B SB cap MB ps c G f now k s w h hG hs g, fun W hW => ?_⟩
    have := rtook_yes R WB wc DB dc GB gc r now k (toW s) W hW (hA.getW hs) (by rw [hA.tookEE]; exact g)
    rw [e3, e4] at this
    exact this
  · refine ⟨0, 0, c.tookE now web, c, f, r, hA.mono (by omega), (ctook_no B SB cap MB ps c G now web w h g).mono ?_, fun W hW => ?_⟩
    · rintro e w' ⟨rfl, n⟩
      exact ⟨rfl, G, h.new n, hG, New.mod n⟩
    · have := rtook_no R WB wc DB dc GB gc r now web W hW (by rw [hA.tookEE]; exact g)
      rw [hA.tookEE] at this
      refine this.mono ?_
      rintro e w' ⟨rfl, n⟩
      exact ⟨rfl, hW.new n, New.mod n⟩
theorem both_failed (B SB cap MB : Nat) (ps : List Nat) (c : CliV) (G : List (Value × Value)) (f : Nat → Option Nat) (R WB wc DB dc GB gc : Nat) (r : RefV) (N now web : Int) (gone : Bool) (w : World) (h : CliAt w B SB cap MB ps c G) (hG : GvAt G f) (hA : Alk N c f r) :
    ∃ (E : Int) (c' : CliV) (f' : Nat → Option Nat) (r' : RefV), Alk (N + 1) c' f' r' ∧
      Calls Tryz.prog 15 #[.pointer (some ⟨B, 0, none⟩), .int .i64 now, .int .i64 web, .bool gone] w (fun e w' => e = .returned (.int .i64 E) ∧ CDone w' w B SB cap MB ps c' f') ∧
      ∀ W, RefAt W R WB wc DB dc GB gc r → Calls Tryz.prog 16 #[.pointer (some ⟨R, 0, none⟩), .int .i64 now, .int .i64 web, .bool gone] W fun e w' => e = .returned (.int .i64 E) ∧ RDone w' W R WB wc DB dc GB gc r' := by
  by_cases g : c.tookE now web = 0
  · obtain ⟨h1, k, s, rfl, hs, hu⟩ := took_facts g
    have ht := at_time h1
    have h0 := hA.now0
    have ho := hA.okay s (List.mem_of_getElem? hs)
    refine ⟨0, _, f, _, (hA.fail (now := now) (by omega) hs hu gone).mono (by omega), (cFailed_yes B SB cap MB ps c G now k s gone w h hs g ho.f8).mono ?_, fun W hW => rFailed_yes R WB wc DB dc GB gc r now k (toW s) gone W hW (hA.getW hs) (by rw [hA.tookEE]; exact g) ho.f8⟩
    rintro e w' ⟨rfl, n, m⟩
    exact ⟨rfl, G, n, hG, m⟩
  · refine ⟨c.tookE now web, c, f, r, hA.mono (by omega), (cFailed_no B SB cap MB ps c G now web gone w h g).mono ?_, fun W hW => ?_⟩
    · rintro e w' ⟨rfl, n⟩
      exact ⟨rfl, G, h.new n, hG, New.mod n⟩
    · have := rFailed_no R WB wc DB dc GB gc r now web gone W hW (by rw [hA.tookEE]; exact g)
      rw [hA.tookEE] at this
      refine this.mono ?_
      rintro e w' ⟨rfl, n⟩
      exact ⟨rfl, hW.new n, New.mod n⟩
theorem both_bad (B SB cap MB : Nat) (ps : List Nat) (c : CliV) (G : List (Value × Value)) (f : Nat → Option Nat) (R WB wc DB dc GB gc : Nat) (r : RefV) (N now web piece : Int) (w : World) (h : CliAt w B SB cap MB ps c G) (hG : GvAt G f) (hA : Alk N c f r) (hN : N ≤ 1000) :
    ∃ (E : Int) (c' : CliV) (f' : Nat → Option Nat) (r' : RefV), Alk (N + 1) c' f' r' ∧
      Calls Tryz.prog 17 #[.pointer (some ⟨B, 0, none⟩), .int .i64 now, .int .i64 web, .int .i64 piece] w (fun e w' => e = .returned (.int .i64 E) ∧ CDone w' w B SB cap MB ps c' f') ∧
      ∀ W, RefAt W R WB wc DB dc GB gc r → Calls Tryz.prog 18 #[.pointer (some ⟨R, 0, none⟩), .int .i64 now, .int .i64 web, .int .i64 piece] W fun e w' => e = .returned (.int .i64 E) ∧ RDone w' W R WB wc DB dc GB gc r' := by
  by_cases g : c.badE f now web piece = 0
  · have hg := g
    unfold CliV.badE at hg
    by_cases g1 : web < 0 ∨ (c.seeds.length : Int) ≤ web ∨ piece < 0 ∨ (c.n : Int) ≤ piece
    · rw [if_pos g1] at hg; cases hg
    rw [if_neg g1] at hg
    have h1 : c.atE now = 0 := by
      by_cases g2 : c.atE now ≠ 0
      · rw [if_pos g2] at hg; exact absurd hg g2
      · simpa using g2
    obtain ⟨k, rfl⟩ := Int.eq_ofNat_of_zero_le (show 0 ≤ web by omega)
    obtain ⟨i, rfl⟩ := Int.eq_ofNat_of_zero_le (show 0 ≤ piece by omega)
    have hkl : k < c.seeds.length := by omega
    have hi : i < c.n := by omega
    have hs := List.getElem?_eq_getElem hkl
    have ht := at_time h1
    have h0 := hA.now0
    have ho := hA.okay _ (List.getElem_mem hkl)
    have hb := ho.bad
    refine ⟨0, _, _, _, hA.bad (now := now) (by omega) hs hi, cBad_yes B SB cap MB ps c G f now k i _ w h hG hs hi g (by omega), fun W hW => rBad_yes R WB wc DB dc GB gc r now k i _ W hW (hA.getW hs) (by rw [hA.lw]; exact hi) (by rw [hA.badEE]; exact g) (by show 0 ≤ c.seeds[k].bad ∧ c.seeds[k].bad ≤ 1000; omega)⟩
  · refine ⟨c.badE f now web piece, c, f, r, hA.mono (by omega), (cBad_no B SB cap MB ps c G f now web piece w h hG g).mono ?_, fun W hW => ?_⟩
    · rintro e w' ⟨rfl, n⟩
      exact ⟨rfl, G, h.new n, hG, New.mod n⟩
    · have := rBad_no R WB wc DB dc GB gc r now web piece W hW (by rw [hA.badEE]; exact g)
      rw [hA.badEE] at this
      refine this.mono ?_
      rintro e w' ⟨rfl, n⟩
      exact ⟨rfl, hW.new n, New.mod n⟩
theorem both_want (B SB cap MB : Nat) (ps : List Nat) (c : CliV) (G : List (Value × Value)) (f : Nat → Option Nat) (R WB wc DB dc GB gc : Nat) (r : RefV) (N piece : Int) (tb : Bool) (w : World) (h : CliAt w B SB cap MB ps c G) (hG : GvAt G f) (hA : Alk N c f r) :
    ∃ (E : Int) (c' : CliV) (f' : Nat → Option Nat) (r' : RefV), Alk (N + 1) c' f' r' ∧
      Calls Tryz.prog 19 #[.pointer (some ⟨B, 0, none⟩), .int .i64 piece, .bool tb] w (fun e w' => e = .returned (.int .i64 E) ∧ CDone w' w B SB cap MB ps c' f') ∧
      ∀ W, RefAt W R WB wc DB dc GB gc r → Calls Tryz.prog 20 #[.pointer (some ⟨R, 0, none⟩), .int .i64 piece, .bool tb] W fun e w' => e = .returned (.int .i64 E) ∧ RDone w' W R WB wc DB dc GB gc r' := by
  by_cases g : c.wantE piece = 0
  · have hg := g
    unfold CliV.wantE at hg
    by_cases g1 : piece < 0 ∨ (c.n : Int) ≤ piece
    · rw [if_pos g1] at hg; cases hg
    obtain ⟨i, rfl⟩ := Int.eq_ofNat_of_zero_le (show 0 ≤ piece by omega)
    have hi : i < c.n := by omega
    refine ⟨0, _, f, _, (hA.wants hi tb).mono (by omega), (cWant_yes B SB cap MB ps c G i tb w h hi).mono ?_, fun W hW => rWant_yes R WB wc DB dc GB gc r i tb W hW (by rw [hA.lw]; exact hi)⟩
    rintro e w' ⟨rfl, n, m⟩
    exact ⟨rfl, G, n, hG, m⟩
  · refine ⟨c.wantE piece, c, f, r, hA.mono (by omega), (cWant_no B SB cap MB ps c G piece tb w h g).mono ?_, fun W hW => ?_⟩
    · rintro e w' ⟨rfl, n⟩
      exact ⟨rfl, G, h.new n, hG, New.mod n⟩
    · have := rWant_no R WB wc DB dc GB gc r piece tb W hW (by rw [hA.wantEE]; exact g)
      rw [hA.wantEE] at this
      refine this.mono ?_
      rintro e w' ⟨rfl, n⟩
      exact ⟨rfl, hW.new n, New.mod n⟩
theorem both_next (B SB cap MB : Nat) (ps : List Nat) (c : CliV) (G : List (Value × Value)) (f : Nat → Option Nat) (R WB wc DB dc GB gc : Nat) (r : RefV) (N now : Int) (w : World) (h : CliAt w B SB cap MB ps c G) (hG : GvAt G f) (hA : Alk N c f r) :
    ∃ (z x y E : Int) (c' : CliV) (f' : Nat → Option Nat) (r' : RefV), Alk (N + 1) c' f' r' ∧
      Calls Tryz.prog 10 #[.pointer (some ⟨B, 0, none⟩), .int .i64 now] w (fun e w' => e = .returned (.tuple #[.int .i64 z, .agg #[.int .i64 x, .int .i64 y], .int .i64 E]) ∧ CDone w' w B SB cap MB ps c' f') ∧
      ∀ W, RefAt W R WB wc DB dc GB gc r → Calls Tryz.prog 21 #[.pointer (some ⟨R, 0, none⟩), .int .i64 now] W fun e w' => e = .returned (.tuple #[.int .i64 z, .agg #[.int .i64 x, .int .i64 y], .int .i64 E]) ∧ RDone w' W R WB wc DB dc GB gc r' := by
  by_cases g : c.nextE now = 0
  · obtain ⟨h1, k, b, hk, hb⟩ := next_facts g
    have ht := at_time h1
    have h0 := hA.now0
    refine ⟨k, c.nFrm, c.nCnt, 0, _, f, _, (hA.next (now := now) (by omega) g).mono (by omega), (cnext_yes B SB cap MB ps c G now w h g).mono ?_, fun W hW => (rnext_any R WB wc DB dc GB gc r now W hW hA.sane).mono ?_⟩
    · rintro e w' ⟨k2, e2, rfl, n, m⟩
      rw [hk] at e2
      cases e2
      exact ⟨rfl, G, n, hG, m⟩
    · rintro e w' (⟨q, -, -⟩ | ⟨-, k2, e2, rfl, n, m⟩)
      · rw [hA.nextEE] at q
        exact absurd g q
      · rw [hA.idxE, hk] at e2
        cases e2
        rw [hA.frmE, hA.cntE]
        exact ⟨rfl, n, m⟩
  · refine ⟨0, 0, 0, c.nextE now, c, f, r, hA.mono (by omega), (cnext_no B SB cap MB ps c G now w h g).mono ?_, fun W hW => (rnext_any R WB wc DB dc GB gc r now W hW hA.sane).mono ?_⟩
    · rintro e w' ⟨rfl, n⟩
      exact ⟨rfl, G, h.new n, hG, New.mod n⟩
    · rintro e w' (⟨-, rfl, n⟩ | ⟨q, -⟩)
      · rw [hA.nextEE]
        exact ⟨rfl, hW.new n, New.mod n⟩
      · rw [hA.nextEE] at q
        exact absurd q g
end Go.Proofs.YtnhgichiedninaaGreatDoor

namespace Go.Proofs.YtnhgichiedninaaGreatDoor
set_option linter.unusedSimpArgs false
set_option linter.unusedVariables false
open Go.RowKit

structure NumsAt (w : World) (a : Option Addr) (c : Nat) (xs : List Int) : Prop where
  room : xs.length ≤ c
  cap : c ≤ maxLen
  at' : xs = [] ∨ ∃ b o, a = some ⟨b, o, none⟩ ∧ b < w.heap.size ∧ ∀ (i : Nat) x, xs[i]? = some x → w.cell? ⟨b, o + i, none⟩ = some (.int .i64 x)
theorem NumsAt.new {w w' : World} {a : Option Addr} {c : Nat} {xs : List Int} (h : NumsAt w a c xs) (hn : New w w') : NumsAt w' a c xs := by
  refine ⟨h.room, h.cap, ?_⟩
  rcases h.at' with h | ⟨b, o, e, hb, hc⟩
  · exact .inl h
  · exact .inr ⟨b, o, e, Nat.lt_of_lt_of_le hb hn.size, fun i s hs => hn.cellv (hc i s hs)⟩
theorem NumsAt.get {w : World} {a : Option Addr} {c : Nat} {xs : List Int} (h : NumsAt w a c xs) (hz : 0 < xs.length) : ∃ b o, a = some ⟨b, o, none⟩ ∧ b < w.heap.size ∧ ∀ (i : Nat) (hi : i < xs.length), w.cell? ⟨b, o + i, none⟩ = some (.int .i64 xs[i]) := by
  rcases h.at' with h | ⟨b, o, e, hb, hc⟩
  · subst h; simp at hz
  · exact ⟨b, o, e, hb, fun i hi => hc i _ (List.getElem?_eq_getElem hi)⟩
structure ActV where
  kind : Int
  later : Int
  web : Int
  piece : Int
  flag : Bool
structure ActsAt (w : World) (a : Option Addr) (c : Nat) (l : List ActV) : Prop where
  room : l.length ≤ c
  cap : c ≤ maxLen
  at' : l = [] ∨ ∃ b o, a = some ⟨b, o, none⟩ ∧ b < w.heap.size ∧ ∀ (i : Nat) x, l[i]? = some x → w.cell? ⟨b, o + i * 5, none⟩ = some (.int .i64 x.kind) ∧ w.cell? ⟨b, o + i * 5 + 1, none⟩ = some (.int .i64 x.later) ∧ w.cell? ⟨b, o + i * 5 + 2, none⟩ = some (.int .i64 x.web) ∧ w.cell? ⟨b, o + i * 5 + 3, none⟩ = some (.int .i64 x.piece) ∧ w.cell? ⟨b, o + i * 5 + 4, none⟩ = some (.bool x.flag)
theorem ActsAt.new {w w' : World} {a : Option Addr} {c : Nat} {l : List ActV} (h : ActsAt w a c l) (hn : New w w') : ActsAt w' a c l := by
  refine ⟨h.room, h.cap, ?_⟩
  rcases h.at' with h | ⟨b, o, e, hb, hc⟩
  · exact .inl h
  · exact .inr ⟨b, o, e, Nat.lt_of_lt_of_le hb hn.size, fun i s hs => ⟨hn.cellv (hc i s hs).1, hn.cellv (hc i s hs).2.1, hn.cellv (hc i s hs).2.2.1, hn.cellv (hc i s hs).2.2.2.1, hn.cellv (hc i s hs).2.2.2.2⟩⟩
theorem ActsAt.get {w : World} {a : Option Addr} {c : Nat} {l : List ActV} (h : ActsAt w a c l) (hz : 0 < l.length) : ∃ b o, a = some ⟨b, o, none⟩ ∧ b < w.heap.size ∧ ∀ (i : Nat) (hi : i < l.length), w.cell? ⟨b, o + i * 5, none⟩ = some (.int .i64 l[i].kind) ∧ w.cell? ⟨b, o + i * 5 + 1, none⟩ = some (.int .i64 l[i].later) ∧ w.cell? ⟨b, o + i * 5 + 2, none⟩ = some (.int .i64 l[i].web) ∧ w.cell? ⟨b, o + i * 5 + 3, none⟩ = some (.int .i64 l[i].piece) ∧ w.cell? ⟨b, o + i * 5 + 4, none⟩ = some (.bool l[i].flag) := by
  rcases h.at' with h | ⟨b, o, e, hb, hc⟩
  · subst h; simp at hz
  · exact ⟨b, o, e, hb, fun i hi => hc i _ (List.getElem?_eq_getElem hi)⟩
theorem ActsAt.nil (w : World) : ActsAt w none 0 [] := ⟨by simp, by simp [maxLen], .inl rfl⟩
def ActV.ok (x : ActV) : Bool := !(decide (10000000 < x.later)) && !(decide (x.later < -10000000))
def lightB (p : List ByteArray) (W : List Bool) (l : List ActV) : Bool := decide (p.length ≤ 25) && decide (W.length ≤ 60) && decide (l.length ≤ 120) && p.all (fun s => decide (s.size ≤ 300)) && l.all ActV.ok
theorem light_facts {p : List ByteArray} {W : List Bool} {l : List ActV} (h : lightB p W l = true) : p.length ≤ 25 ∧ W.length ≤ 60 ∧ l.length ≤ 120 ∧ (∀ s ∈ p, s.size ≤ 300) ∧ ∀ x ∈ l, -10000000 ≤ x.later ∧ x.later ≤ 10000000 := by
  unfold lightB ActV.ok at h
  simp only [Bool.and_eq_true, decide_eq_true_eq, List.all_eq_true, Bool.not_eq_true', decide_eq_false_iff_not] at h
  obtain ⟨⟨⟨⟨h1, h2⟩, h3⟩, h4⟩, h5⟩ := h
  exact ⟨h1, h2, h3, h4, fun x hx => by have := h5 x hx; omega⟩
theorem allL_upto {α : Type} {p : List α} {f : α → Bool} {k : Nat} (hk : ¬ k < p.length) (h : ∀ (j : Nat) (hj : j < p.length), j < k → f p[j] = true) : p.all f = true := by
  rw [List.all_eq_true]
  intro x hx
  obtain ⟨j, hj, rfl⟩ := List.mem_iff_getElem.1 hx
  exact h j hj (by omega)
theorem allL_not {α : Type} {p : List α} {f : α → Bool} {k : Nat} (hk : k < p.length) (h : f p[k] = false) : p.all f = false := by
  rw [List.all_eq_false]
  exact ⟨_, List.getElem_mem hk, by simp [h]⟩
set_option maxRecDepth 100000 in
set_option maxHeartbeats 4000000 in
theorem light_any (a wa la : Option Addr) (c wc lc : Nat) (p : List ByteArray) (W : List Bool) (l : List ActV) (w : World) (h : StrsAt w a c p) (hw : BoolsAt w wa wc W) (hl : ActsAt w la lc l) :
    Calls Tryz.prog 6 #[.slice a p.length c, .slice wa W.length wc, .slice la l.length lc] w fun e w' => e = .returned (.bool (lightB p W l)) ∧ New w w' := by
  have hr := h.room; have hc := h.cap; have hwr := hw.room; have hwc := hw.cap; have hlr := hl.room; have hlc := hl.cap
  unfold maxLen at hc hwc hlc
  obtain ⟨R, hR⟩ : ∃ R, R = lightB p W l := ⟨_, rfl⟩
  rw [← hR]
  unfold lightB at hR
  have HP := hid h; have HL := hid hl
  clear h hw hl
  by_cases g1 : 25 < p.length
  · rw [decide_eq_false (by omega)] at hR
    have HR := hid (show R = false by rw [hR]; simp)
    clear hR
    go_enter Tryz.func6, Tryz.ntmps6
    go_wp2
    go_ret
    exact ⟨ret_bool HR.out.symm, Mod.refl _ _⟩
  by_cases g2 : 60 < W.length
  · rw [show decide (W.length ≤ 60) = false from decide_eq_false (by omega)] at hR
    have HR := hid (show R = false by rw [hR]; simp)
    clear hR
    go_enter Tryz.func6, Tryz.ntmps6
    go_wp2
    go_ret
    exact ⟨ret_bool HR.out.symm, Mod.refl _ _⟩
  by_cases g3 : 120 < l.length
  · rw [show decide (l.length ≤ 120) = false from decide_eq_false (by omega)] at hR
    have HR := hid (show R = false by rw [hR]; simp)
    clear hR
    go_enter Tryz.func6, Tryz.ntmps6
    go_wp2
    go_ret
    exact ⟨ret_bool HR.out.symm, Mod.refl _ _⟩
  rw [decide_eq_true (by omega), decide_eq_true (by omega), decide_eq_true (by omega)] at hR
  have HR := hid (show R = (p.all (fun s => decide (s.size ≤ 300)) && l.all ActV.ok) by rw [hR]; simp)
  clear hR
  go_enter Tryz.func6, Tryz.ntmps6
  go_wp2
  go_loopw [26] (fun x wr => ∃ j : Nat, x = .int .i64 j ∧ j ≤ p.length ∧ (∀ (i : Nat) (hi : i < p.length), i < j → decide (p[i].size ≤ 300) = true) ∧ wr = w) (fun x _ => p.length - (intOf x).toNat)
  case atStart => exact ⟨0, rfl, by omega, by intros; omega, rfl⟩
  case round =>
    obtain ⟨j, rfl, hj, hb, rfl⟩ := hrel
    have HB := hid hb
    clear hb
    by_cases hlt : j < p.length
    · obtain ⟨b1, o1, rfl, hb1, hc1⟩ := HP.out.get (by omega)
      have g1 := hc1 j hlt
      have hsz := HP.out.small _ (List.getElem_mem hlt)
      unfold maxLen at hsz
      clear hc1
      by_cases hs : 300 < p[j].size
      · have HE := hid (allL_not (f := fun s : ByteArray => decide (s.size ≤ 300)) hlt (decide_eq_false (by omega)))
        go_wp2
        go_ret
        exact ⟨ret_bool (by rw [HR.out, HE.out]; rfl), Mod.refl _ _⟩
      · have HE := hid (show decide (p[j].size ≤ 300) = true from decide_eq_true (by omega))
        go_wp2
        refine ⟨⟨j + 1, by simp, by omega, fun i hi h => ?_, trivial⟩, by simp [intOf]; omega⟩
        rcases Nat.lt_succ_iff_lt_or_eq.1 h with h | h
        · exact HB.out i hi h
        · subst h; exact HE.out
    · have HE := hid (allL_upto (f := fun s : ByteArray => decide (s.size ≤ 300)) hlt (fun i hi h => HB.out i hi h))
      clear HB
      go_wp2
      go_loopw [36] (fun x w' => ∃ j : Nat, x = .int .i64 j ∧ j ≤ l.length ∧ (∀ (i : Nat) (hi : i < l.length), i < j → l[i].ok = true) ∧ New wr w') (fun x _ => l.length - (intOf x).toNat)
      case atStart => exact ⟨0, rfl, by omega, by intros; omega, Mod.refl _ _⟩
      case round =>
        obtain ⟨i, rfl, hi, hb, hn⟩ := hrel
        have HB := hid hb; have HN := hid hn
        clear hb
        by_cases hlt2 : i < l.length
        · obtain ⟨b1, o1, rfl, hb1, hc1⟩ := HL.out.get (by omega)
          obtain ⟨g0, g1, g2, g3, g4⟩ := hc1 i hlt2
          have g0 := hn.cellv g0; have g1 := hn.cellv g1; have g2 := hn.cellv g2; have g3 := hn.cellv g3; have g4 := hn.cellv g4
          obtain ⟨x, hx⟩ : ∃ x, x = l[i] := ⟨_, rfl⟩
          rw [← hx] at g0 g1 g2 g3 g4
          have HX := hid hx
          clear hc1 hn hx
          by_cases hs : 10000000 < x.later
          · have HE2 := hid (show l.all ActV.ok = false from allL_not hlt2 (by rw [← HX.out]; unfold ActV.ok; rw [decide_eq_true hs]; rfl))
            go_wp2
            go_ret
            exact ⟨ret_bool (by rw [HR.out, HE2.out]; simp), HN.out.alloc _⟩
          · by_cases hs2 : x.later < -10000000
            · have HE2 := hid (show l.all ActV.ok = false from allL_not hlt2 (by rw [← HX.out]; unfold ActV.ok; rw [decide_eq_true hs2]; simp))
              go_wp2
              go_ret
              exact ⟨ret_bool (by rw [HR.out, HE2.out]; simp), HN.out.alloc _⟩
            · have HE2 := hid (show x.ok = true by unfold ActV.ok; rw [decide_eq_false hs, decide_eq_false hs2]; rfl)
              go_wp2
              refine ⟨⟨i + 1, by simp, by omega, fun k hk h => ?_, HN.out.alloc _⟩, by simp [intOf]; omega⟩
              rcases Nat.lt_succ_iff_lt_or_eq.1 h with h | h
              · exact HB.out k hk h
              · subst h; rw [← HX.out]; exact HE2.out
        · have HE2 := hid (show l.all ActV.ok = true from allL_upto hlt2 (fun i hi h => HB.out i hi h))
          clear hn
          go_wp2
          go_ret
          exact ⟨ret_bool (by rw [HR.out, HE.out, HE2.out]; rfl), HN.out⟩
end Go.Proofs.YtnhgichiedninaaGreatDoor

namespace Go.Proofs.YtnhgichiedninaaGreatDoor
set_option linter.unusedSimpArgs false
set_option linter.unusedVariables false
open Go.Shelf Go.RowKit
def bren : Go.Shelf.Ren := ⟨fun | 167 => 132 | n => Tryz.lays156_ren.f n, Tryz.lays156_ren.t, Tryz.lays156_ren.g⟩
theorem lays166 : Go.Proofs.Lays.n166 Tryz.prog Tryz.lays156_ren := { Tryz.lays156 with }
theorem lays169 : Go.Proofs.Lays.n169 Tryz.prog Tryz.lays156_ren := { Tryz.lays156 with }
theorem lays167 : Go.Proofs.Lays.n167 Tryz.prog bren := { Tryz.lays156 with f167 := Tryz.func132.trans (congrArg some (by kernel_rfl)), f240 := Tryz.lays156.f240.trans (congrArg some (by kernel_rfl)), f276 := Tryz.lays156.f276.trans (congrArg some (by kernel_rfl)), t5 := Tryz.underlying5, a5 := Tryz.isAgg5, z5 := Tryz.sizeOf5, v5 := Tryz.zeroValue5 }
theorem extra167 : Builder.Extra Tryz.prog bren := { sizeBuilder := by kernel_rfl, liesBuilder := by kernel_rfl, t5 := Tryz.underlying5, a5 := Tryz.isAgg5, z5 := Tryz.sizeOf5, v5 := Tryz.zeroValue5, infoByte := by kernel_rfl, cellsByte := by kernel_rfl, sizeByte := by kernel_rfl, neB5 := by decide }
/-- The builder in block b holds the bytes l. -/
def Bld (w : World) (b : Nat) (l : List UInt8) : Prop := Lib.IsBuilderF 155 5 b b (Lib.byteCells l) w
/-- What a call on the builder leaves: blocks from the builder's on may turn; among these, only the builder and rows of bytes do. -/
def Wrote (b : Nat) (w w' : World) : Prop := Mod (fun k => b ≤ k) w w' ∧ Lib.OthersKept 5 (some b) w w'
theorem Wrote.mod {b : Nat} {w w' : World} (h : Wrote b w w') : Mod (fun k => b ≤ k) w w' := h.1
theorem Wrote.blk {b : Nat} {w w' : World} (h : Wrote b w w') {k : Nat} {cs : Array Value} {t : TypeId} (hb : Blk w k cs t) (hk : k ≠ b) (ht : t ≠ 5) : Blk w' k cs t :=
  h.2 k _ hb (fun e => hk (Option.some.inj e)) (fun c fz e => ht (by cases e; rfl))
theorem Wrote.trans {b : Nat} {w w' w'' : World} (h : Wrote b w w') (k : Wrote b w' w'') : Wrote b w w'' := ⟨h.1.trans k.1, h.2.trans k.2⟩
/-- Behind what made memory alone. -/
theorem Wrote.new {b : Nat} {w0 w w' : World} (hn : New w0 w) (h : Wrote b w w') (hb : w0.heap.size ≤ b) : New w0 w' := hn.trans' h.1 (fun i hi x => by omega)
theorem Bld.lt {w : World} {b : Nat} {l : List UInt8} (h : Bld w b l) : b < w.heap.size := by
  rcases h with h | h <;> exact h.lt
theorem builderAt_new {T e : TypeId} {B b : Nat} {p : Value} {bs : List Value} {w w' : World} (h : Lib.BuilderAtF T e B b p bs w) (hn : New w w') : Lib.BuilderAtF T e B b p bs w' := by
  obtain ⟨hB, v, hb, hown, hne⟩ := h
  have hlt : b < w.heap.size := Lib.BuilderAtF.lt ⟨hB, v, hb, hown, hne⟩
  refine ⟨hB, v, (hn.block b hlt (fun x => x)).trans hb, ?_, hne⟩
  refine hown.kept (row := none) ⟨hn.os, hn.tape, hn.output, hn.size, fun k hk _ => hn.block k hk (fun x => x)⟩ ?_
  rcases hown.2 with ⟨rfl, _⟩ | ⟨g, cap, cur, fz, rfl, _⟩
  · exact .inl rfl
  · exact .inr (by simp [Value.ownBlock])
theorem Bld.new {w w' : World} {b : Nat} {l : List UInt8} (h : Bld w b l) (hn : New w w') : Bld w' b l := by
  rcases h with h | h
  · exact .inl (builderAt_new h hn)
  · exact .inr (builderAt_new h hn)
theorem Bld.fresh (w : World) : Bld (w.alloc (.cells #[.pointer none, .slice none 0 0] 155)) w.heap.size [] := Lib.IsBuilderF.of (Lib.fresh_isBuilder _ _ w)
theorem Bld.freshAt {w : World} {b : Nat} (hb : b = w.heap.size) : Bld (w.alloc (.cells #[.pointer none, .slice none 0 0] 155)) b [] := by subst hb; exact Bld.fresh w
theorem write_any (b : Nat) (l : List UInt8) (s : ByteArray) (w : World) (h : Bld w b l) (hlen : l.length + s.size ≤ 140737488355328) :
    Calls Tryz.prog 99 #[.pointer (some ⟨b, 0, none⟩), .string s] w fun e w' => e = .returned (.tuple #[.int .i64 s.size, .nilIface]) ∧ Bld w' b (l ++ s.data.toList) ∧ Wrote b w w' := by
  refine (@Any.Builder_WriteString_k Tryz.prog Tryz.lays156_ren lays166 Tryz.Builder_Extra_156 b b (Lib.byteCells l) s w h (by rw [Lib.byteCells_length]; exact hlen) (Nat.le_of_lt h.lt)).mono fun e w' ⟨he, h1, h2, h3⟩ => ⟨he, ?_, Mod.of_below h2, h3⟩
  refine .inr ?_
  rw [Lib.byteCells_append, ← Lib.strCells_eq]
  exact h1
theorem string_any (b : Nat) (l : List UInt8) (w : World) (h : Bld w b l) :
    Calls Tryz.prog 101 #[.pointer (some ⟨b, 0, none⟩)] w fun e w' => e = .returned (.string ⟨l.toArray⟩) ∧ Bld w' b l ∧ Wrote b w w' :=
  (@Any.Builder_String_any_k Tryz.prog Tryz.lays156_ren lays169 Tryz.Builder_Extra_156 b b l w h (Nat.le_of_lt h.lt)).mono fun e w' ⟨he, h1, h2, h3⟩ => ⟨he, h1, Mod.of_below h2, h3⟩
theorem byte_any (b : Nat) (l : List UInt8) (c : UInt8) (w : World) (h : Bld w b l) (hlen : l.length + 1 ≤ 140737488355328) :
    Calls Tryz.prog 132 #[.pointer (some ⟨b, 0, none⟩), .int .u8 c.toNat] w fun e w' => e = .returned .nilIface ∧ Bld w' b (l ++ [c]) ∧ Wrote b w w' := by
  refine (@Any.Builder_WriteByte_k Tryz.prog bren lays167 extra167 b b (Lib.byteCells l) c.toNat w h (by rw [Lib.byteCells_length]; exact hlen) (Nat.le_of_lt h.lt)).mono fun e w' ⟨he, h1, h2, h3⟩ => ⟨he, ?_, Mod.of_below h2, h3⟩
  refine .inr ?_
  rw [Lib.byteCells_append]
  exact h1
theorem size_list (l : List UInt8) : (⟨l.toArray⟩ : ByteArray).size = l.length := by simp [ByteArray.size]
end Go.Proofs.YtnhgichiedninaaGreatDoor
