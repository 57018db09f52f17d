/-
  The walks of Bare, Align, Aligned of package files, for every list. Conditions: the list lies as told; the library's table is as laid.
-/
import Derived.Test.YtnccfikimmolgaaDoorAlM
import Derived.Test.YtnccfikimmolgaaDoorDel
import Derived.Test.YtnccfikimmolgaaDoorSame
namespace Go.Proofs.YtnccfikimmolgaaDoor
set_option linter.unusedSimpArgs false
set_option linter.unusedVariables false
open Go.RowKit

theorem FilesAt.none (w : World) : FilesAt w none 0 [] := ⟨by simp, by simp [maxLen], .inl rfl⟩
theorem good_path {f : FileV} (h : Good f) : 1 ≤ f.path.length ∧ f.path.length ≤ 8 := by
  have hn := h.1
  unfold namedR at hn
  split at hn
  · have := congrArg List.length (of_decide_eq_true hn)
    simp [padPath] at this
    omega
  · simp at hn
    omega
theorem padded_sum (piece : Int) (hp : 16 ≤ piece ∧ piece ≤ 1024) : ∀ (l : List FileV) (x : Int), sumOf (padded piece x l) ≤ sumOf l + 1024 * l.length
  | [], _ => by simp [padded]
  | f :: r, x => by
    by_cases hq : 0 < f.len ∧ 0 < (-x) % piece
    · rw [padded_pos hq]
      have := padded_sum piece hp r (x + (-x) % piece + f.len)
      have h1 := Int.emod_lt_of_pos (-x) (show 0 < piece by omega)
      simp only [sumOf, List.map_cons, List.sum_cons, List.length_cons] at *
      omega
    · rw [padded_none hq]
      have := padded_sum piece hp r (x + f.len)
      simp only [sumOf, List.map_cons, List.sum_cons, List.length_cons] at *
      omega
/-- What a valid list's bare and padded lists keep. -/
structure Kept (l : List FileV) (piece : Int) : Prop where
  len : l.length ≤ 40
  path : ∀ f ∈ l, 1 ≤ f.path.length ∧ f.path.length ≤ 8
  blen : (bareL l).length ≤ 40
  bfit : ∀ f ∈ bareL l, 0 ≤ f.len ∧ f.len ≤ 65536
  pos : ∀ f ∈ padded piece 0 (bareL l), 0 ≤ f.len
  sum : sumOf (padded piece 0 (bareL l)) ≤ 4611686018427387904
theorem kept {l : List FileV} {piece : Int} (h : Vld l) (hp : pieceOf piece = true) : Kept l piece := by
  have hp2 := piece_range hp
  have hb : (bareL l).length ≤ 40 := Nat.le_trans (List.length_filter_le _ _) h.most
  have hg : ∀ f ∈ bareL l, Good f := fun f hf => h.good f (List.mem_filter.1 hf).1
  refine ⟨h.most, fun f hf => good_path (h.good f hf), hb, fun f hf => ⟨(hg f hf).2.1, (hg f hf).2.2.1⟩, fun f hf => ?_, ?_⟩
  · rcases padded_mem piece hp2 _ _ f hf with hf | ⟨n, rfl, n0, -⟩
    · exact (hg f hf).2.1
    · show 0 ≤ n; omega
  · have h1 := padded_sum piece hp2 (bareL l) 0
    have h2 := bare_sum l (fun f hf => (h.good f hf).2.1)
    have h3 := h.sum
    omega
def bareOf (l : List FileV) : List FileV × Int := if validOf l then (bareL l, 0) else ([], 1)
def padOf (l : List FileV) (piece : Int) : List FileV := padded piece 0 (bareL l)
def alignOf (l : List FileV) (piece : Int) : List FileV × Int := if validOf l then (if pieceOf piece then (if 40 < (padOf l piece).length ∨ 65536 < sumOf (padOf l piece) then ([], 4) else (padOf l piece, 0)) else ([], 7)) else ([], 1)
def isAlOf (l : List FileV) (piece : Int) : Bool × Int := if validOf l then (if pieceOf piece then (sameB l (padOf l piece), 0) else (false, 7)) else (false, 1)
set_option maxRecDepth 100000 in
set_option maxHeartbeats 1000000 in
theorem Bare_any (a : Option Addr) (c : Nat) (l : List FileV) (w : World) (h : FilesAt w a c l) (ht : Tab w) :
    Calls Tryd.prog 23 #[.slice a l.length c] w fun e w' => ∃ a' c', e = .returned (.tuple #[.slice a' (bareOf l).1.length c', .int .i64 (bareOf l).2]) ∧ FilesAt w' a' c' (bareOf l).1 ∧ New w w' := by
  cases hv : validOf l with
  | false =>
    have HV := hid (hv ▸ valid_any a c l w h ht : Calls Tryd.prog 15 #[.slice a l.length c] w fun e w' => e = .returned (.bool false) ∧ New w w')
    have e : bareOf l = ([], 1) := by simp [bareOf, hv]
    rw [e]
    clear h ht hv e
    go_enter Tryd.func23, Tryd.ntmps23
    go_wp2_with (first | (go_at_call 15; refine HV.out.mono ?_; rintro e w1 ⟨rfl, h1⟩; have H1 := hid h1; clear h1))
    go_ret2
    exact ⟨none, 0, rfl, FilesAt.none _, H1.out⟩
  | true =>
    have HV := hid (hv ▸ valid_any a c l w h ht : Calls Tryd.prog 15 #[.slice a l.length c] w fun e w' => e = .returned (.bool true) ∧ New w w')
    have hk := kept (piece := 16) ((valid_iff h.fits).1 hv) (by decide)
    have HB := hid (fun w' (n : New w w') => bare_any a c l w' (h.new n) hk.len (fun f hf => (hk.path f hf).2))
    have e : bareOf l = (bareL l, 0) := by simp [bareOf, hv]
    rw [e]
    clear h ht hv e hk
    go_enter Tryd.func23, Tryd.ntmps23
    go_wp2_with (first | (go_at_call 15; refine HV.out.mono ?_; rintro e w1 ⟨rfl, h1⟩; have H1 := hid h1; clear h1) | (go_at_call 47; refine (HB.out _ H1.out).mono ?_; rintro e w2 ⟨v, E, rfl, hE, hO, n2⟩; have HE := hid hE; have HO := hid hO; have H2 := hid n2; clear hE hO n2))
    go_ret2
    obtain ⟨a', c', rfl, hfa⟩ := HO.out.files
    rw [HE.out] at hfa
    have hl : E.length = (bareL l).length := by rw [← HE.out]; simp
    exact ⟨a', c', by rw [← hl]; rfl, hfa, H1.out.trans H2.out⟩
theorem aligned_any (a : Option Addr) (c : Nat) (l : List FileV) (piece : Int) (w : World) (h : FilesAt w a c l) (ht : Tab w) (hv : validOf l = true) (hp : pieceOf piece = true) :
    Calls Tryd.prog 43 #[.slice a l.length c, .int .i64 piece] w fun e w' => ∃ a' c', e = .returned (.slice a' (padOf l piece).length c') ∧ FilesAt w' a' c' (padOf l piece) ∧ New w w' := by
  have hk := kept (piece := piece) ((valid_iff h.fits).1 hv) hp
  refine (aligned_go a c l (bareL l) piece w hk.blen hk.bfit hp ht (bare_any a c l w h hk.len (fun f hf => (hk.path f hf).2))).mono ?_
  rintro e w' ⟨v, E, rfl, hE, hO, n⟩
  obtain ⟨a', c', rfl, hfa⟩ := hO.files
  rw [hE] at hfa
  have hl : E.length = (padOf l piece).length := by unfold padOf; rw [← hE]; simp
  exact ⟨a', c', by rw [hl], hfa, n⟩
set_option maxRecDepth 100000 in
set_option maxHeartbeats 2000000 in
theorem Align_any (a : Option Addr) (c : Nat) (l : List FileV) (piece : Int) (w : World) (h : FilesAt w a c l) (ht : Tab w) (h0 : -9223372036854775808 ≤ piece) (h1 : piece ≤ 9223372036854775807) :
    Calls Tryd.prog 19 #[.slice a l.length c, .int .i64 piece] w fun e w' => ∃ a' c', e = .returned (.tuple #[.slice a' (alignOf l piece).1.length c', .int .i64 (alignOf l piece).2]) ∧ FilesAt w' a' c' (alignOf l piece).1 ∧ New w w' := by
  cases hv : validOf l with
  | false =>
    have HV := hid (hv ▸ valid_any a c l w h ht : Calls Tryd.prog 15 #[.slice a l.length c] w fun e w' => e = .returned (.bool false) ∧ New w w')
    have e : alignOf l piece = ([], 1) := by simp [alignOf, hv]
    rw [e]
    clear h ht hv e
    go_enter Tryd.func19, Tryd.ntmps19
    go_wp2_with (first | (go_at_call 15; refine HV.out.mono ?_; rintro e w1 ⟨rfl, h1⟩; have H1 := hid h1; clear h1))
    go_ret2
    exact ⟨none, 0, rfl, FilesAt.none _, H1.out⟩
  | true =>
    have HV := hid (hv ▸ valid_any a c l w h ht : Calls Tryd.prog 15 #[.slice a l.length c] w fun e w' => e = .returned (.bool true) ∧ New w w')
    cases hp : pieceOf piece with
    | false =>
      have HP := hid (fun w => (hp ▸ piece_any piece w h0 h1 : Calls Tryd.prog 17 #[.int .i64 piece] w fun e w' => e = .returned (.bool false) ∧ w = w'))
      have e : alignOf l piece = ([], 7) := by simp [alignOf, hv, hp]
      rw [e]
      clear h ht hv hp e
      go_enter Tryd.func19, Tryd.ntmps19
      go_wp2_with (first | (go_at_call 15; refine HV.out.mono ?_; rintro e w1 ⟨rfl, h1⟩; have H1 := hid h1; clear h1) | (go_at_call 17; refine (HP.out _).mono ?_; rintro e w2 ⟨rfl, rfl⟩))
      go_ret2
      exact ⟨none, 0, rfl, FilesAt.none _, H1.out⟩
    | true =>
      have HP := hid (fun w => (hp ▸ piece_any piece w h0 h1 : Calls Tryd.prog 17 #[.int .i64 piece] w fun e w' => e = .returned (.bool true) ∧ w = w'))
      have hk := kept (piece := piece) ((valid_iff h.fits).1 hv) hp
      have HA := hid (fun w' (n : New w w') => aligned_any a c l piece w' (h.new n) (ht.new n) hv hp)
      have HTT := hid (fun a c (W : World) (h : FilesAt W a c (padOf l piece)) => total_any a c (padOf l piece) W h hk.pos hk.sum)
      have e : alignOf l piece = (if 40 < (padOf l piece).length ∨ 65536 < sumOf (padOf l piece) then ([], 4) else (padOf l piece, 0)) := by simp [alignOf, hv, hp]
      rw [e]
      clear h ht hv hp hk e
      obtain ⟨pl, hpl⟩ : ∃ pl, pl = padOf l piece := ⟨_, rfl⟩
      rw [← hpl] at HA HTT ⊢
      clear hpl
      by_cases q1 : 40 < pl.length
      · rw [if_pos (.inl q1)]
        have q2 : (40 : Int) < pl.length := by omega
        clear q1
        go_enter Tryd.func19, Tryd.ntmps19
        go_wp2_with (first | (first | (go_at_call 15; refine HV.out.mono ?_; rintro e w1 ⟨rfl, h1⟩; have H1 := hid h1; clear h1) | (go_at_call 17; refine (HP.out _).mono ?_; rintro e w2 ⟨rfl, rfl⟩)) | (go_at_call 43; refine (HA.out _ H1.out).mono ?_; rintro e w3 ⟨a', c', rfl, hfa, n3⟩; have HFA := hid hfa; have N3 := hid n3; have hfr := hfa.room; have hfc := hfa.cap; unfold maxLen at hfc; clear hfa n3))
        go_ret2
        exact ⟨none, 0, rfl, FilesAt.none _, H1.out.trans N3.out⟩
      · by_cases q2 : 65536 < sumOf pl
        · rw [if_pos (.inr q2)]
          have q3 : ¬ (40 : Int) < pl.length := by omega
          clear q1
          go_enter Tryd.func19, Tryd.ntmps19
          go_wp2_with (first | (first | (go_at_call 15; refine HV.out.mono ?_; rintro e w1 ⟨rfl, h1⟩; have H1 := hid h1; clear h1) | (go_at_call 17; refine (HP.out _).mono ?_; rintro e w2 ⟨rfl, rfl⟩)) | (go_at_call 43; refine (HA.out _ H1.out).mono ?_; rintro e w3 ⟨a', c', rfl, hfa, n3⟩; have HFA := hid hfa; have N3 := hid n3; have hfr := hfa.room; have hfc := hfa.cap; unfold maxLen at hfc; clear hfa n3) | (go_at_call 41; refine (HTT.out _ _ _ HFA.out).mono ?_; rintro e w4 ⟨rfl, n4⟩; have N4 := hid n4; clear n4))
          go_ret2
          exact ⟨none, 0, rfl, FilesAt.none _, H1.out.trans (N3.out.trans N4.out)⟩
        · rw [if_neg (by omega)]
          have q3 : ¬ (40 : Int) < pl.length := by omega
          clear q1
          go_enter Tryd.func19, Tryd.ntmps19
          go_wp2_with (first | (first | (go_at_call 15; refine HV.out.mono ?_; rintro e w1 ⟨rfl, h1⟩; have H1 := hid h1; clear h1) | (go_at_call 17; refine (HP.out _).mono ?_; rintro e w2 ⟨rfl, rfl⟩)) | (go_at_call 43; refine (HA.out _ H1.out).mono ?_; rintro e w3 ⟨a', c', rfl, hfa, n3⟩; have HFA := hid hfa; have N3 := hid n3; have hfr := hfa.room; have hfc := hfa.cap; unfold maxLen at hfc; clear hfa n3) | (go_at_call 41; refine (HTT.out _ _ _ HFA.out).mono ?_; rintro e w4 ⟨rfl, n4⟩; have N4 := hid n4; clear n4))
          go_ret2
          exact ⟨a', c', rfl, HFA.out.new N4.out, H1.out.trans (N3.out.trans N4.out)⟩
set_option maxRecDepth 100000 in
set_option maxHeartbeats 2000000 in
theorem Aligned_any (a : Option Addr) (c : Nat) (l : List FileV) (piece : Int) (w : World) (h : FilesAt w a c l) (ht : Tab w) (h0 : -9223372036854775808 ≤ piece) (h1 : piece ≤ 9223372036854775807) :
    Calls Tryd.prog 21 #[.slice a l.length c, .int .i64 piece] w fun e w' => e = .returned (.tuple #[.bool (isAlOf l piece).1, .int .i64 (isAlOf l piece).2]) ∧ New w w' := by
  cases hv : validOf l with
  | false =>
    have HV := hid (hv ▸ valid_any a c l w h ht : Calls Tryd.prog 15 #[.slice a l.length c] w fun e w' => e = .returned (.bool false) ∧ New w w')
    have e : isAlOf l piece = (false, 1) := by simp [isAlOf, hv]
    rw [e]
    clear h ht hv e
    go_enter Tryd.func21, Tryd.ntmps21
    go_wp2_with (first | (go_at_call 15; refine HV.out.mono ?_; rintro e w1 ⟨rfl, h1⟩; have H1 := hid h1; clear h1))
    go_ret2
    exact ⟨rfl, H1.out⟩
  | true =>
    have HV := hid (hv ▸ valid_any a c l w h ht : Calls Tryd.prog 15 #[.slice a l.length c] w fun e w' => e = .returned (.bool true) ∧ New w w')
    cases hp : pieceOf piece with
    | false =>
      have HP := hid (fun w => (hp ▸ piece_any piece w h0 h1 : Calls Tryd.prog 17 #[.int .i64 piece] w fun e w' => e = .returned (.bool false) ∧ w = w'))
      have e : isAlOf l piece = (false, 7) := by simp [isAlOf, hv, hp]
      rw [e]
      clear h ht hv hp e
      go_enter Tryd.func21, Tryd.ntmps21
      go_wp2_with (first | (go_at_call 15; refine HV.out.mono ?_; rintro e w1 ⟨rfl, h1⟩; have H1 := hid h1; clear h1) | (go_at_call 17; refine (HP.out _).mono ?_; rintro e w2 ⟨rfl, rfl⟩))
      go_ret2
      exact ⟨rfl, H1.out⟩
    | true =>
      have HP := hid (fun w => (hp ▸ piece_any piece w h0 h1 : Calls Tryd.prog 17 #[.int .i64 piece] w fun e w' => e = .returned (.bool true) ∧ w = w'))
      have HA := hid (fun w' (n : New w w') => aligned_any a c l piece w' (h.new n) (ht.new n) hv hp)
      have HSA := hid (fun a2 c2 pl (W : World) (n : New w W) (k : FilesAt W a2 c2 pl) => same_any a a2 c c2 l pl W (h.new n) k)
      have e : isAlOf l piece = (sameB l (padOf l piece), 0) := by simp [isAlOf, hv, hp]
      rw [e]
      clear h ht hv hp e
      obtain ⟨pl, hpl⟩ : ∃ pl, pl = padOf l piece := ⟨_, rfl⟩
      rw [← hpl] at HA ⊢
      clear hpl
      go_enter Tryd.func21, Tryd.ntmps21
      go_wp2_with (first | (first | (go_at_call 15; refine HV.out.mono ?_; rintro e w1 ⟨rfl, h1⟩; have H1 := hid h1; clear h1) | (go_at_call 17; refine (HP.out _).mono ?_; rintro e w2 ⟨rfl, rfl⟩)) | (go_at_call 43; refine (HA.out _ H1.out).mono ?_; rintro e w3 ⟨a', c', rfl, hfa, n3⟩; have HFA := hid hfa; have N3 := hid n3; have hfr := hfa.room; have hfc := hfa.cap; unfold maxLen at hfc; clear hfa n3) | (go_at_call 46; refine (HSA.out _ _ _ _ (H1.out.trans N3.out) HFA.out).mono ?_; rintro e w4 ⟨rfl, n4⟩; have N4 := hid n4; clear n4))
      go_ret2
      exact ⟨rfl, H1.out.trans (N3.out.trans N4.out)⟩
end Go.Proofs.YtnccfikimmolgaaDoor
