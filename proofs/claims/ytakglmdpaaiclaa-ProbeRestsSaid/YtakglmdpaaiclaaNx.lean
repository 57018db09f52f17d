/-
  Next, in one word, of the program and of the reference. Conditions: the search keeps the bounds of 'St.Ok', and fewer than a thousand million probes were sent.
-/
import Derived.Test.YtakglmdpaaiclaaSm
namespace Go.Proofs.Ytakglmdpaaiclaa
open Go.RowKit

theorem nextErr_cases (s : St) (now : Int) : (s.bad now = true ∧ s.nextErr now = 7) ∨ (s.bad now = false ∧ s.size ≠ 0 ∧ s.nextErr now = 9) ∨
    (s.bad now = false ∧ s.size = 0 ∧ s.over = true ∧ (now < s.since + 600000 ∨ s.top - s.low < 16) ∧ s.nextErr now = 8) ∨
    (s.bad now = false ∧ s.size = 0 ∧ s.over = true ∧ s.since + 600000 ≤ now ∧ 16 ≤ s.top - s.low ∧ s.nextErr now = 0) ∨ (s.bad now = false ∧ s.size = 0 ∧ s.over = false ∧ s.nextErr now = 0) := by
  unfold St.nextErr
  cases hb : s.bad now with
  | true => exact .inl ⟨rfl, rfl⟩
  | false =>
    by_cases hz : s.size = 0
    · cases ho : s.over with
      | false => exact .inr (.inr (.inr (.inr ⟨rfl, hz, rfl, by simp [hz]⟩)))
      | true =>
        by_cases hn : now < s.since + 600000 ∨ s.top - s.low < 16
        · exact .inr (.inr (.inl ⟨rfl, hz, rfl, hn, by simp [hz, hn]⟩))
        · exact .inr (.inr (.inr (.inl ⟨rfl, hz, rfl, by omega, by omega, by simp [hz, hn]⟩)))
    · exact .inr (.inl ⟨rfl, hz, by simp [hz]⟩)

def NextSaid (b : Nat) (s : St) (p : Option Addr) (now : Int) (w : World) (e : Ending) (w' : World) : Prop :=
  e = .returned (.tuple #[.int .i64 (s.nextSize now), .int .i64 (s.nextNumber now), .int .i64 (s.nextErr now)]) ∧
  ∃ p', Blk w' b (prow (s.next now) p') 58 ∧ Probe w' b (s.next now) p' ∧ (∀ x, p' = some x → p = some x ∨ w.heap.size ≤ x.block) ∧ Mod (· = b) w w'

theorem nextSaid_none {b : Nat} {s : St} {p : Option Addr} {now er : Int} {w w' : World} (he : s.nextErr now = er) (h0 : er ≠ 0) (h : Blk w b (prow s p) 58) (hp : Probe w b s p) (hm : New w w') :
    NextSaid b s p now w (.returned (.tuple #[.int .i64 0, .int .i64 0, .int .i64 er])) w' := by
  have hn : s.next now = s := by unfold St.next; rw [if_neg (by omega)]
  have h1 : s.nextSize now = 0 := by unfold St.nextSize; rw [if_neg (by omega)]
  have h2 : s.nextNumber now = 0 := by unfold St.nextNumber; rw [if_neg (by omega)]
  refine ⟨by rw [h1, h2, he], p, hn.symm ▸ hm.blk h, ?_, fun _ x => .inl x, hm.mod⟩
  rw [hn]
  rcases hp with hp | ⟨g1, bp, g2, g3, g4⟩
  · exact .inl hp
  · exact .inr ⟨g1, bp, g2, g3, hm.blk g4⟩

theorem size_ne (s : St) (now : Int) (hk : s.Ok) : (s.asks now).size ≠ 0 := by
  have := hk.l1; have := hk.l2
  simp [St.asks]; omega
theorem size_ne' (s : St) (now : Int) (hk : s.Ok) : (s.anew.asks now).size ≠ 0 := by
  have := hk.l1; have := hk.l2; have := hk.l3
  unfold St.anew
  split <;> simp [St.asks] <;> omega

theorem Next_any (b : Nat) (s : St) (p : Option Addr) (now : Int) (w : World) (hk : s.Ok) (h : Blk w b (prow s p) 58) (hp : Probe w b s p) :
    Calls Try.prog 16 #[.pointer (some ⟨b, 0, none⟩), .int .i64 now] w (NextSaid b s p now w) := by
  have hblt := h.lt
  rcases nextErr_cases s now with ⟨h1, he⟩ | ⟨h1, h2, he⟩ | ⟨h1, h2, h3, h4, he⟩ | ⟨h1, h2, h3, h4, h5, he⟩ | ⟨h1, h2, h3, he⟩
  · refine (next_bad b s p now w h1 h).mono ?_
    rintro e w' ⟨rfl, rfl⟩
    exact nextSaid_none he (by decide) h hp (Mod.refl _ _)
  · rcases hp with ⟨g, _⟩ | ⟨g1, bp, g2, g3, g4⟩
    · exact absurd g h2
    · subst g2
      refine (next_state b s ⟨bp, 0, none⟩ now w h1 h).mono ?_
      rintro e w' ⟨rfl, hm⟩
      exact nextSaid_none he (by decide) h (.inr ⟨g1, bp, rfl, g3, g4⟩) hm
  · rcases hp with ⟨_, rfl⟩ | ⟨g1, _⟩
    · refine (next_none b s now w hk h1 h3 h4 h).mono ?_
      rintro e w' ⟨rfl, hm⟩
      exact nextSaid_none he (by decide) h (.inl ⟨h2, rfl⟩) hm
    · exact absurd h2 g1
  · rcases hp with ⟨_, rfl⟩ | ⟨g1, _⟩
    · refine (next_anew b s now w hk h1 h3 h4 h5 h).mono ?_
      rintro e w' ⟨rfl, bp, hbp, hB, hP, hM⟩
      have hn : s.next now = s.anew.asks now := by unfold St.next; rw [if_pos he]
      refine ⟨by unfold St.nextSize St.nextNumber; rw [if_pos he, if_pos he, hn, he], some ⟨bp, 0, none⟩, by rw [hn]; exact hB, .inr ⟨by rw [hn]; exact size_ne' s now hk, bp, rfl, by omega, by rw [hn]; exact hP⟩, fun x hx => ?_, hM⟩
      injection hx with hx; subst hx; exact .inr hbp
    · exact absurd h2 g1
  · rcases hp with ⟨_, rfl⟩ | ⟨g1, _⟩
    · refine (next_ask b s now w hk h1 h3 h).mono ?_
      rintro e w' ⟨rfl, bp, hbp, hB, hP, hM⟩
      have hn : s.next now = s.asks now := by unfold St.next; rw [if_pos he]; simp [St.anew, h3]
      refine ⟨by unfold St.nextSize St.nextNumber; rw [if_pos he, if_pos he, hn, he], some ⟨bp, 0, none⟩, by rw [hn]; exact hB, .inr ⟨by rw [hn]; exact size_ne s now hk, bp, rfl, by omega, by rw [hn]; exact hP⟩, fun x hx => ?_, hM⟩
      injection hx with hx; subst hx; exact .inr hbp
    · exact absurd h2 g1

def RNextSaid (b : Nat) (s : St) (now : Int) (w : World) (e : Ending) (w' : World) : Prop :=
  e = .returned (.tuple #[.int .i64 (s.nextSize now), .int .i64 (s.nextNumber now), .int .i64 (s.nextErr now)]) ∧ RB w' b (s.next now) ∧ Mod (· = b) w w'
theorem rnextSaid_none {b : Nat} {s : St} {now er : Int} {w w' : World} (he : s.nextErr now = er) (h0 : er ≠ 0) (h : RB w' b s) (hm : Mod (· = b) w w') :
    RNextSaid b s now w (.returned (.tuple #[.int .i64 0, .int .i64 0, .int .i64 er])) w' := by
  have hn : s.next now = s := by unfold St.next; rw [if_neg (by omega)]
  have h1 : s.nextSize now = 0 := by unfold St.nextSize; rw [if_neg (by omega)]
  have h2 : s.nextNumber now = 0 := by unfold St.nextNumber; rw [if_neg (by omega)]
  exact ⟨by rw [h1, h2, he], hn.symm ▸ h, hm⟩
theorem rNext_any (b : Nat) (s : St) (now : Int) (w : World) (hk : s.Ok) (h : RB w b s) :
    Calls Try.prog 29 #[.pointer (some ⟨b, 0, none⟩), .int .i64 now] w (RNextSaid b s now w) := by
  have hz0 := hk.z0
  rcases nextErr_cases s now with ⟨h1, he⟩ | ⟨h1, h2, he⟩ | ⟨h1, h2, h3, h4, he⟩ | ⟨h1, h2, h3, h4, h5, he⟩ | ⟨h1, h2, h3, he⟩
  · refine (rnext_bad b s now w h1 h).mono ?_
    rintro e w' ⟨rfl, rfl⟩
    exact rnextSaid_none he (by decide) h (Mod.refl _ _)
  · refine (rnext_state b s now w h1 (by omega) h).mono ?_
    rintro e w' ⟨rfl, rfl⟩
    exact rnextSaid_none he (by decide) h (Mod.refl _ _)
  · by_cases hq : now < s.since + 600000
    · refine (rnext_none1 b s now w hk h1 h2 h3 hq h).mono ?_
      rintro e w' ⟨rfl, hb, hm⟩
      exact rnextSaid_none he (by decide) hb hm
    · refine (rnext_none2 b s now w hk h1 h2 h3 (by omega) (by omega) h).mono ?_
      rintro e w' ⟨rfl, hb, hm⟩
      exact rnextSaid_none he (by decide) hb hm
  · refine (rnext_anew b s now w hk h1 h2 h3 h4 h5 h).mono ?_
    rintro e w' ⟨rfl, hb, hm⟩
    have hn : s.next now = s.anew.asks now := by unfold St.next; rw [if_pos he]
    exact ⟨by unfold St.nextSize St.nextNumber; rw [if_pos he, if_pos he, hn, he], by rw [hn]; exact hb, hm⟩
  · refine (rnext_ask b s now w hk h1 h2 h3 h).mono ?_
    rintro e w' ⟨rfl, hb, hm⟩
    have hn : s.next now = s.asks now := by unfold St.next; rw [if_pos he]; simp [St.anew, h3]
    exact ⟨by unfold St.nextSize St.nextNumber; rw [if_pos he, if_pos he, hn, he], by rw [hn]; exact hb, hm⟩
end Go.Proofs.Ytakglmdpaaiclaa
