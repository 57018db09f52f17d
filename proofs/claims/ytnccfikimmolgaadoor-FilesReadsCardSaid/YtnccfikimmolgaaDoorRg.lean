/-
  The walks of the reference's check, Bare, Align, Aligned, for every list. Conditions: the list lies as told.
-/
import Derived.Test.YtnccfikimmolgaaDoorRs
namespace Go.Proofs.YtnccfikimmolgaaDoor
set_option linter.unusedSimpArgs false
set_option linter.unusedVariables false
open Go.RowKit

set_option maxRecDepth 100000 in
set_option maxHeartbeats 1000000 in
theorem rcheck_any (a : Option Addr) (c : Nat) (l : List FileV) (piece : Int) (w : World) (h : FilesAt w a c l) (h0 : -9223372036854775808 ≤ piece) (h1 : piece ≤ 9223372036854775807) :
    Calls Tryd.prog 44 #[.slice a l.length c, .int .i64 piece] w fun e w' => e = .returned (.int .i64 (wayErr l piece)) ∧ New w w' := by
  cases hv : validOf l with
  | false =>
    have HV := hid (hv ▸ rvalid_any a c l w h : Calls Tryd.prog 16 #[.slice a l.length c] w fun e w' => e = .returned (.bool false) ∧ New w w')
    have e : wayErr l piece = 1 := by simp [wayErr, hv]
    rw [e]
    clear h hv e
    go_enter Tryd.func44, Tryd.ntmps44
    go_wp2_with (first | (go_at_call 16; refine HV.out.mono ?_; rintro e w1 ⟨rfl, h1⟩; have H1 := hid h1; clear h1) | (go_at_call 18; refine (HP.out _).mono ?_; rintro e w2 ⟨rfl, rfl⟩))
    go_ret
    exact ⟨rfl, H1.out⟩
  | true =>
    have HV := hid (hv ▸ rvalid_any a c l w h : Calls Tryd.prog 16 #[.slice a l.length c] w fun e w' => e = .returned (.bool true) ∧ New w w')
    cases hp : pieceOf piece with
    | false =>
      have HP := hid (fun w => (hp ▸ rpiece_any piece w h0 h1 : Calls Tryd.prog 18 #[.int .i64 piece] w fun e w' => e = .returned (.bool false) ∧ w = w'))
      have e : wayErr l piece = 7 := by simp [wayErr, hv, hp]
      rw [e]
      clear h hv hp e
      go_enter Tryd.func44, Tryd.ntmps44
      go_wp2_with (first | (go_at_call 16; refine HV.out.mono ?_; rintro e w1 ⟨rfl, h1⟩; have H1 := hid h1; clear h1) | (go_at_call 18; refine (HP.out _).mono ?_; rintro e w2 ⟨rfl, rfl⟩))
      go_ret
      exact ⟨rfl, H1.out⟩
    | true =>
      have HP := hid (fun w => (hp ▸ rpiece_any piece w h0 h1 : Calls Tryd.prog 18 #[.int .i64 piece] w fun e w' => e = .returned (.bool true) ∧ w = w'))
      have e : wayErr l piece = 0 := by simp [wayErr, hv, hp]
      rw [e]
      clear h hv hp e
      go_enter Tryd.func44, Tryd.ntmps44
      go_wp2_with (first | (go_at_call 16; refine HV.out.mono ?_; rintro e w1 ⟨rfl, h1⟩; have H1 := hid h1; clear h1) | (go_at_call 18; refine (HP.out _).mono ?_; rintro e w2 ⟨rfl, rfl⟩))
      go_ret
      exact ⟨rfl, H1.out⟩
set_option maxRecDepth 100000 in
set_option maxHeartbeats 1000000 in
theorem rBare_any (a : Option Addr) (c : Nat) (l : List FileV) (w : World) (h : FilesAt w a c l) :
    Calls Tryd.prog 24 #[.slice a l.length c] w fun e w' => ∃ a' c', e = .returned (.tuple #[.slice a' (bareOf l).1.length c', .int .i64 (bareOf l).2]) ∧ FilesAt w' a' c' (bareOf l).1 ∧ New w w' := by
  cases hv : validOf l with
  | false =>
    have HV := hid (hv ▸ rvalid_any a c l w h : Calls Tryd.prog 16 #[.slice a l.length c] w fun e w' => e = .returned (.bool false) ∧ New w w')
    have e : bareOf l = ([], 1) := by simp [bareOf, hv]
    rw [e]
    clear h hv e
    go_enter Tryd.func24, Tryd.ntmps24
    go_wp2_with (first | (go_at_call 16; refine HV.out.mono ?_; rintro e w1 ⟨rfl, h1⟩; have H1 := hid h1; clear h1) | (go_at_call 18; refine (HP.out _).mono ?_; rintro e w2 ⟨rfl, rfl⟩))
    go_ret2
    exact ⟨none, 0, rfl, FilesAt.none _, H1.out⟩
  | true =>
    have HV := hid (hv ▸ rvalid_any a c l w h : Calls Tryd.prog 16 #[.slice a l.length c] w fun e w' => e = .returned (.bool true) ∧ New w w')
    have hk := kept (piece := 16) ((valid_iff h.fits).1 hv) (by decide)
    have HB := hid (fun w' (n : New w w') => rbare_any a c l w' (h.new n) hk.len hk.path)
    have e : bareOf l = (bareL l, 0) := by simp [bareOf, hv]
    rw [e]
    clear h hv e hk
    go_enter Tryd.func24, Tryd.ntmps24
    go_wp2_with (first | (first | (go_at_call 16; refine HV.out.mono ?_; rintro e w1 ⟨rfl, h1⟩; have H1 := hid h1; clear h1) | (go_at_call 18; refine (HP.out _).mono ?_; rintro e w2 ⟨rfl, rfl⟩)) | (go_at_call 48; refine (HB.out _ H1.out).mono ?_; rintro e w2 ⟨v, E, rfl, hE, hO, n2⟩; have HE := hid hE; have HO := hid hO; have H2 := hid n2; clear hE hO n2))
    go_ret2
    obtain ⟨a', c', rfl, hfa⟩ := HO.out.files
    rw [HE.out] at hfa
    have hl : E.length = (bareL l).length := by rw [← HE.out]; simp
    exact ⟨a', c', by rw [← hl]; rfl, hfa, H1.out.trans H2.out⟩
theorem rpadded_any (a : Option Addr) (c : Nat) (l : List FileV) (piece : Int) (w : World) (h : FilesAt w a c l) (hv : validOf l = true) (hp : pieceOf piece = true) :
    Calls Tryd.prog 45 #[.slice a l.length c, .int .i64 piece] w fun e w' => ∃ a' c', e = .returned (.slice a' (padOf l piece).length c') ∧ FilesAt w' a' c' (padOf l piece) ∧ New w w' := by
  have hk := kept (piece := piece) ((valid_iff h.fits).1 hv) hp
  refine (rpadded_go a c l (bareL l) piece w hk.blen hk.bfit hp (rbare_any a c l w h hk.len hk.path)).mono ?_
  rintro e w' ⟨v, E, rfl, hE, hO, n⟩
  obtain ⟨a', c', rfl, hfa⟩ := hO.files
  rw [hE] at hfa
  have hl : E.length = (padOf l piece).length := by unfold padOf; rw [← hE]; simp
  exact ⟨a', c', by rw [hl], hfa, n⟩
theorem al_bad {l : List FileV} {piece : Int} (h : wayErr l piece ≠ 0) : alignOf l piece = ([], wayErr l piece) ∧ isAlOf l piece = (false, wayErr l piece) := by
  unfold wayErr alignOf isAlOf at *
  cases hv : validOf l <;> simp [hv] at h ⊢
  cases hp : pieceOf piece <;> simp [hp] at h ⊢
set_option maxRecDepth 100000 in
set_option maxHeartbeats 2000000 in
theorem rAlign_any (a : Option Addr) (c : Nat) (l : List FileV) (piece : Int) (w : World) (h : FilesAt w a c l) (h0 : -9223372036854775808 ≤ piece) (h1 : piece ≤ 9223372036854775807) :
    Calls Tryd.prog 20 #[.slice a l.length c, .int .i64 piece] w fun e w' => ∃ a' c', e = .returned (.tuple #[.slice a' (alignOf l piece).1.length c', .int .i64 (alignOf l piece).2]) ∧ FilesAt w' a' c' (alignOf l piece).1 ∧ New w w' := by
  have HC := hid (rcheck_any a c l piece w h h0 h1)
  by_cases he : wayErr l piece = 0
  · obtain ⟨hv, hp⟩ := way_ok he
    rw [he] at HC
    have hk := kept (piece := piece) ((valid_iff h.fits).1 hv) hp
    have HA := hid (fun w' (n : New w w') => rpadded_any a c l piece w' (h.new n) hv hp)
    have HTT := hid (fun a c (W : World) (h : FilesAt W a c (padOf l piece)) => rtotal_any a c (padOf l piece) W h hk.pos hk.sum)
    have e : alignOf l piece = (if 40 < (padOf l piece).length ∨ 65536 < sumOf (padOf l piece) then ([], 4) else (padOf l piece, 0)) := by simp [alignOf, hv, hp]
    rw [e]
    clear h hv hp hk e he
    obtain ⟨pl, hpl⟩ : ∃ pl, pl = padOf l piece := ⟨_, rfl⟩
    rw [← hpl] at HA HTT ⊢
    clear hpl
    by_cases q1 : 40 < pl.length
    · rw [if_pos (.inl q1)]
      have q2 : (40 : Int) < pl.length := by omega
      clear q1
      go_enter Tryd.func20, Tryd.ntmps20
      go_wp2_with (first | (go_at_call 44; refine HC.out.mono ?_; rintro e w1 ⟨rfl, h1⟩; have H1 := hid h1; clear h1) | (go_at_call 45; refine (HA.out _ H1.out).mono ?_; rintro e w3 ⟨a', c', rfl, hfa, n3⟩; have HFA := hid hfa; have N3 := hid n3; have hfr := hfa.room; have hfc := hfa.cap; unfold maxLen at hfc; clear hfa n3))
      go_ret2
      exact ⟨none, 0, rfl, FilesAt.none _, H1.out.trans N3.out⟩
    · by_cases q2 : 65536 < sumOf pl
      · rw [if_pos (.inr q2)]
        have q3 : ¬ (40 : Int) < pl.length := by omega
        clear q1
        go_enter Tryd.func20, Tryd.ntmps20
        go_wp2_with (first | (go_at_call 44; refine HC.out.mono ?_; rintro e w1 ⟨rfl, h1⟩; have H1 := hid h1; clear h1) | (go_at_call 45; refine (HA.out _ H1.out).mono ?_; rintro e w3 ⟨a', c', rfl, hfa, n3⟩; have HFA := hid hfa; have N3 := hid n3; have hfr := hfa.room; have hfc := hfa.cap; unfold maxLen at hfc; clear hfa n3) | (go_at_call 42; refine (HTT.out _ _ _ HFA.out).mono ?_; rintro e w4 ⟨rfl, n4⟩; have N4 := hid n4; clear n4))
        go_ret2
        exact ⟨none, 0, rfl, FilesAt.none _, H1.out.trans (N3.out.trans N4.out)⟩
      · rw [if_neg (by omega)]
        have q3 : ¬ (40 : Int) < pl.length := by omega
        clear q1
        go_enter Tryd.func20, Tryd.ntmps20
        go_wp2_with (first | (go_at_call 44; refine HC.out.mono ?_; rintro e w1 ⟨rfl, h1⟩; have H1 := hid h1; clear h1) | (go_at_call 45; refine (HA.out _ H1.out).mono ?_; rintro e w3 ⟨a', c', rfl, hfa, n3⟩; have HFA := hid hfa; have N3 := hid n3; have hfr := hfa.room; have hfc := hfa.cap; unfold maxLen at hfc; clear hfa n3) | (go_at_call 42; refine (HTT.out _ _ _ HFA.out).mono ?_; rintro e w4 ⟨rfl, n4⟩; have N4 := hid n4; clear n4))
        go_ret2
        exact ⟨a', c', rfl, HFA.out.new N4.out, H1.out.trans (N3.out.trans N4.out)⟩
  · rw [(al_bad he).1]
    obtain ⟨er, her⟩ : ∃ er, er = wayErr l piece := ⟨_, rfl⟩
    rw [← her] at HC he ⊢
    have hb : (er != 0) = true := by simpa using he
    clear h her he
    go_enter Tryd.func20, Tryd.ntmps20
    go_wp2_with (first | (go_at_call 44; refine HC.out.mono ?_; rintro e w1 ⟨rfl, h1⟩; have H1 := hid h1; clear h1))
    go_ret2
    exact ⟨none, 0, rfl, FilesAt.none _, H1.out⟩
set_option maxRecDepth 100000 in
set_option maxHeartbeats 2000000 in
theorem rAligned_any (a : Option Addr) (c : Nat) (l : List FileV) (piece : Int) (w : World) (h : FilesAt w a c l) (h0 : -9223372036854775808 ≤ piece) (h1 : piece ≤ 9223372036854775807) :
    Calls Tryd.prog 22 #[.slice a l.length c, .int .i64 piece] w fun e w' => e = .returned (.tuple #[.bool (isAlOf l piece).1, .int .i64 (isAlOf l piece).2]) ∧ New w w' := by
  have HC := hid (rcheck_any a c l piece w h h0 h1)
  by_cases he : wayErr l piece = 0
  · obtain ⟨hv, hp⟩ := way_ok he
    rw [he] at HC
    have HA := hid (fun w' (n : New w w') => rpadded_any a c l piece w' (h.new n) hv hp)
    have HSA := hid (fun a2 c2 pl (W : World) (n : New w W) (k : FilesAt W a2 c2 pl) => rSame_any a a2 c c2 l pl W (h.new n) k)
    have e : isAlOf l piece = (sameB l (padOf l piece), 0) := by simp [isAlOf, hv, hp]
    rw [e]
    clear h hv hp e he
    obtain ⟨pl, hpl⟩ : ∃ pl, pl = padOf l piece := ⟨_, rfl⟩
    rw [← hpl] at HA ⊢
    clear hpl
    go_enter Tryd.func22, Tryd.ntmps22
    go_wp2_with (first | (go_at_call 44; refine HC.out.mono ?_; rintro e w1 ⟨rfl, h1⟩; have H1 := hid h1; clear h1) | (go_at_call 45; refine (HA.out _ H1.out).mono ?_; rintro e w3 ⟨a', c', rfl, hfa, n3⟩; have HFA := hid hfa; have N3 := hid n3; have hfr := hfa.room; have hfc := hfa.cap; unfold maxLen at hfc; clear hfa n3) | (go_at_call 25; refine (HSA.out _ _ _ _ (H1.out.trans N3.out) HFA.out).mono ?_; rintro e w4 ⟨rfl, n4⟩; have N4 := hid n4; clear n4))
    go_ret2
    exact ⟨rfl, H1.out.trans (N3.out.trans N4.out)⟩
  · rw [(al_bad he).2]
    obtain ⟨er, her⟩ : ∃ er, er = wayErr l piece := ⟨_, rfl⟩
    rw [← her] at HC he ⊢
    have hb : (er != 0) = true := by simpa using he
    clear h her he
    go_enter Tryd.func22, Tryd.ntmps22
    go_wp2_with (first | (go_at_call 44; refine HC.out.mono ?_; rintro e w1 ⟨rfl, h1⟩; have H1 := hid h1; clear h1))
    go_ret2
    exact ⟨rfl, H1.out⟩
end Go.Proofs.YtnccfikimmolgaaDoor
