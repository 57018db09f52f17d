/-
  Several texts in one, in their build order. The walks of same (package files) and Same (the reference): whether two lists are one. Conditions: both lists lie as told. The walks of Bare, Align, Aligned of package files, for every list. Conditions: the list lies as told; the library's table is as laid. The walks of the reference's bare and padded. Conditions: the list lies as told, has at most 40 files, and their paths at most eight parts and no less than one. The walk of the reference's padded. Condition: what its bare answers.
-/
import Derived.Test.YtnccfikimmolgaaGreatDoorM19
import Derived.Test.YtnccfikimmolgaaGreatDoorM40
import Derived.Test.YtnccfikimmolgaaGreatDoorM41
namespace Go.Proofs.YtnccfikimmolgaaGreatDoor
set_option linter.unusedSimpArgs false
set_option linter.unusedVariables false
open Go.RowKit

def eqF (f g : FileV) : Bool := (f.len == g.len) && ((f.pad == g.pad) && decide (f.path = g.path))
def sameB : List FileV → List FileV → Bool
  | [], [] => true
  | f :: r, g :: s => eqF f g && sameB r s
  | _, _ => false
theorem eqF_self (f : FileV) : eqF f f = true := by simp [eqF]
theorem sameB_self : ∀ l : List FileV, sameB l l = true
  | [] => rfl
  | f :: r => by simp [sameB, eqF_self, sameB_self r]
theorem eqF_eq {f g : FileV} (h : eqF f g = true) : f = g := by
  simp only [eqF, Bool.and_eq_true, beq_iff_eq, decide_eq_true_eq] at h
  obtain ⟨a, b, c⟩ := f
  obtain ⟨a', b', c'⟩ := g
  simp at h
  obtain ⟨rfl, rfl, rfl⟩ := h
  rfl
theorem sameB_len : ∀ {l m : List FileV}, l.length ≠ m.length → sameB l m = false
  | [], [], h => absurd rfl h
  | [], _ :: _, _ => rfl
  | _ :: _, [], _ => rfl
  | f :: r, g :: s, h => by
    simp only [sameB, sameB_len (l := r) (m := s) (by simpa using h), Bool.and_false]
theorem sameB_all : ∀ {l m : List FileV}, l.length = m.length → (∀ (k : Nat) (h1 : k < l.length) (h2 : k < m.length), eqF l[k] m[k] = true) → sameB l m = true
  | [], [], _, _ => rfl
  | [], _ :: _, h, _ => by simp at h
  | _ :: _, [], h, _ => by simp at h
  | f :: r, g :: s, h, hk => by
    have h0 := hk 0 (by simp) (by simp)
    have hr := sameB_all (l := r) (m := s) (by simpa using h) (fun k h1 h2 => hk (k + 1) (by simpa using h1) (by simpa using h2))
    simp only [sameB, hr]
    simpa using h0
theorem sameB_not : ∀ {l m : List FileV} {k : Nat} (h1 : k < l.length) (h2 : k < m.length), eqF l[k] m[k] = false → sameB l m = false
  | f :: r, g :: s, 0, _, _, h => by simp only [sameB]; simp at h; simp [h]
  | f :: r, g :: s, k + 1, h1, h2, h => by
    have := sameB_not (l := r) (m := s) (k := k) (by simpa using h1) (by simpa using h2) (by simpa using h)
    simp only [sameB, this, Bool.and_false]

end Go.Proofs.YtnccfikimmolgaaGreatDoor

namespace Go.Proofs.YtnccfikimmolgaaGreatDoor
set_option linter.unusedSimpArgs false
set_option linter.unusedVariables false
open Go.RowKit

theorem FilesAt.none (w : World) : FilesAt w none 0 [] := ⟨by simp, by simp [maxLen], .inl rfl⟩
theorem good_path {f : FileV} (h : Good f) : 1 ≤ f.path.length ∧ f.path.length ≤ 8 := by
  have hn := h.1
  unfold namedR at hn
  split at hn
  · have := congrArg List.length (of_decide_eq_true hn)
    simp [padPath] at this
    omega
  · simp at hn
    omega
theorem padded_sum (piece : Int) (hp : 16 ≤ piece ∧ piece ≤ 1024) : ∀ (l : List FileV) (x : Int), sumOf (padded piece x l) ≤ sumOf l + 1024 * l.length
  | [], _ => by simp [padded]
  | f :: r, x => by
    by_cases hq : 0 < f.len ∧ 0 < (-x) % piece
    · rw [padded_pos hq]
      have := padded_sum piece hp r (x + (-x) % piece + f.len)
      have h1 := Int.emod_lt_of_pos (-x) (show 0 < piece by omega)
      simp only [sumOf, List.map_cons, List.sum_cons, List.length_cons] at *
      omega
    · rw [padded_none hq]
      have := padded_sum piece hp r (x + f.len)
      simp only [sumOf, List.map_cons, List.sum_cons, List.length_cons] at *
      omega
/-- What a valid list's bare and padded lists keep. -/
structure Kept (l : List FileV) (piece : Int) : Prop where
  len : l.length ≤ 40
  path : ∀ f ∈ l, 1 ≤ f.path.length ∧ f.path.length ≤ 8
  blen : (bareL l).length ≤ 40
  bfit : ∀ f ∈ bareL l, 0 ≤ f.len ∧ f.len ≤ 65536
  pos : ∀ f ∈ padded piece 0 (bareL l), 0 ≤ f.len
  sum : sumOf (padded piece 0 (bareL l)) ≤ 4611686018427387904
theorem kept {l : List FileV} {piece : Int} (h : Vld l) (hp : pieceOf piece = true) : Kept l piece := by
  have hp2 := piece_range hp
  have hb : (bareL l).length ≤ 40 := Nat.le_trans (List.length_filter_le _ _) h.most
  have hg : ∀ f ∈ bareL l, Good f := fun f hf => h.good f (List.mem_filter.1 hf).1
  refine ⟨h.most, fun f hf => good_path (h.good f hf), hb, fun f hf => ⟨(hg f hf).2.1, (hg f hf).2.2.1⟩, fun f hf => ?_, ?_⟩
  · rcases padded_mem piece hp2 _ _ f hf with hf | ⟨n, rfl, n0, -⟩
    · exact (hg f hf).2.1
    · show 0 ≤ n; omega
  · have h1 := padded_sum piece hp2 (bareL l) 0
    have h2 := bare_sum l (fun f hf => (h.good f hf).2.1)
    have h3 := h.sum
    omega
def bareOf (l : List FileV) : List FileV × Int := if validOf l then (bareL l, 0) else ([], 1)
def padOf (l : List FileV) (piece : Int) : List FileV := padded piece 0 (bareL l)
def alignOf (l : List FileV) (piece : Int) : List FileV × Int := if validOf l then (if pieceOf piece then (if 40 < (padOf l piece).length ∨ 65536 < sumOf (padOf l piece) then ([], 4) else (padOf l piece, 0)) else ([], 7)) else ([], 1)
def isAlOf (l : List FileV) (piece : Int) : Bool × Int := if validOf l then (if pieceOf piece then (sameB l (padOf l piece), 0) else (false, 7)) else (false, 1)
theorem aligned_any (a : Option Addr) (c : Nat) (l : List FileV) (piece : Int) (w : World) (h : FilesAt w a c l) (ht : Tab w) (hv : validOf l = true) (hp : pieceOf piece = true) :
    Calls Tryz.prog 58 #[.slice a l.length c, .int .i64 piece] w fun e w' => ∃ a' c', e = .returned (.slice a' (padOf l piece).length c') ∧ FilesAt w' a' c' (padOf l piece) ∧ New w w' := by
  have hk := kept (piece := piece) ((valid_iff h.fits).1 hv) hp
  refine (aligned_go a c l (bareL l) piece w hk.blen hk.bfit hp ht (bare_any a c l w h hk.len (fun f hf => (hk.path f hf).2))).mono ?_
  rintro e w' ⟨v, E, rfl, hE, hO, n⟩
  obtain ⟨a', c', rfl, hfa⟩ := hO.files
  rw [hE] at hfa
  have hl : E.length = (padOf l piece).length := by unfold padOf; rw [← hE]; simp
  exact ⟨a', c', by rw [hl], hfa, n⟩
set_option maxRecDepth 100000 in
set_option maxHeartbeats 2000000 in
theorem Align_any (a : Option Addr) (c : Nat) (l : List FileV) (piece : Int) (w : World) (h : FilesAt w a c l) (ht : Tab w) (h0 : -9223372036854775808 ≤ piece) (h1 : piece ≤ 9223372036854775807) :
    Calls Tryz.prog 30 #[.slice a l.length c, .int .i64 piece] w fun e w' => ∃ a' c', e = .returned (.tuple #[.slice a' (alignOf l piece).1.length c', .int .i64 (alignOf l piece).2]) ∧ FilesAt w' a' c' (alignOf l piece).1 ∧ New w w' := by
  cases hv : validOf l with
  | false =>
    have HV := hid (hv ▸ valid_any a c l w h ht : Calls Tryz.prog 27 #[.slice a l.length c] w fun e w' => e = .returned (.bool false) ∧ New w w')
    have e : alignOf l piece = ([], 1) := by simp [alignOf, hv]
    rw [e]
    clear h ht hv e
    go_enter Tryz.func30, Tryz.ntmps30
    go_wp2_with (first | (go_at_call 27; refine HV.out.mono ?_; rintro e w1 ⟨rfl, h1⟩; have H1 := hid h1; clear h1))
    go_ret2
    exact ⟨none, 0, rfl, FilesAt.none _, H1.out⟩
  | true =>
    have HV := hid (hv ▸ valid_any a c l w h ht : Calls Tryz.prog 27 #[.slice a l.length c] w fun e w' => e = .returned (.bool true) ∧ New w w')
    cases hp : pieceOf piece with
    | false =>
      have HP := hid (fun w => (hp ▸ piece_any piece w h0 h1 : Calls Tryz.prog 57 #[.int .i64 piece] w fun e w' => e = .returned (.bool false) ∧ w = w'))
      have e : alignOf l piece = ([], 7) := by simp [alignOf, hv, hp]
      rw [e]
      clear h ht hv hp e
      go_enter Tryz.func30, Tryz.ntmps30
      go_wp2_with (first | (go_at_call 27; refine HV.out.mono ?_; rintro e w1 ⟨rfl, h1⟩; have H1 := hid h1; clear h1) | (go_at_call 57; refine (HP.out _).mono ?_; rintro e w2 ⟨rfl, rfl⟩))
      go_ret2
      exact ⟨none, 0, rfl, FilesAt.none _, H1.out⟩
    | true =>
      have HP := hid (fun w => (hp ▸ piece_any piece w h0 h1 : Calls Tryz.prog 57 #[.int .i64 piece] w fun e w' => e = .returned (.bool true) ∧ w = w'))
      have hk := kept (piece := piece) ((valid_iff h.fits).1 hv) hp
      have HA := hid (fun w' (n : New w w') => aligned_any a c l piece w' (h.new n) (ht.new n) hv hp)
      have HTT := hid (fun a c (W : World) (h : FilesAt W a c (padOf l piece)) => total_any a c (padOf l piece) W h hk.pos hk.sum)
      have e : alignOf l piece = (if 40 < (padOf l piece).length ∨ 65536 < sumOf (padOf l piece) then ([], 4) else (padOf l piece, 0)) := by simp [alignOf, hv, hp]
      rw [e]
      clear h ht hv hp hk e
      obtain ⟨pl, hpl⟩ : ∃ pl, pl = padOf l piece := ⟨_, rfl⟩
      rw [← hpl] at HA HTT ⊢
      clear hpl
      by_cases q1 : 40 < pl.length
      · rw [if_pos (.inl q1)]
        have q2 : (40 : Int) < pl.length := by omega
        clear q1
        go_enter Tryz.func30, Tryz.ntmps30
        go_wp2_with (first | (first | (go_at_call 27; refine HV.out.mono ?_; rintro e w1 ⟨rfl, h1⟩; have H1 := hid h1; clear h1) | (go_at_call 57; refine (HP.out _).mono ?_; rintro e w2 ⟨rfl, rfl⟩)) | (go_at_call 58; refine (HA.out _ H1.out).mono ?_; rintro e w3 ⟨a', c', rfl, hfa, n3⟩; have HFA := hid hfa; have N3 := hid n3; have hfr := hfa.room; have hfc := hfa.cap; unfold maxLen at hfc; clear hfa n3))
        go_ret2
        exact ⟨none, 0, rfl, FilesAt.none _, H1.out.trans N3.out⟩
      · by_cases q2 : 65536 < sumOf pl
        · rw [if_pos (.inr q2)]
          have q3 : ¬ (40 : Int) < pl.length := by omega
          clear q1
          go_enter Tryz.func30, Tryz.ntmps30
          go_wp2_with (first | (first | (go_at_call 27; refine HV.out.mono ?_; rintro e w1 ⟨rfl, h1⟩; have H1 := hid h1; clear h1) | (go_at_call 57; refine (HP.out _).mono ?_; rintro e w2 ⟨rfl, rfl⟩)) | (go_at_call 58; refine (HA.out _ H1.out).mono ?_; rintro e w3 ⟨a', c', rfl, hfa, n3⟩; have HFA := hid hfa; have N3 := hid n3; have hfr := hfa.room; have hfc := hfa.cap; unfold maxLen at hfc; clear hfa n3) | (go_at_call 59; refine (HTT.out _ _ _ HFA.out).mono ?_; rintro e w4 ⟨rfl, n4⟩; have N4 := hid n4; clear n4))
          go_ret2
          exact ⟨none, 0, rfl, FilesAt.none _, H1.out.trans (N3.out.trans N4.out)⟩
        · rw [if_neg (by omega)]
          have q3 : ¬ (40 : Int) < pl.length := by omega
          clear q1
          go_enter Tryz.func30, Tryz.ntmps30
          go_wp2_with (first | (first | (go_at_call 27; refine HV.out.mono ?_; rintro e w1 ⟨rfl, h1⟩; have H1 := hid h1; clear h1) | (go_at_call 57; refine (HP.out _).mono ?_; rintro e w2 ⟨rfl, rfl⟩)) | (go_at_call 58; refine (HA.out _ H1.out).mono ?_; rintro e w3 ⟨a', c', rfl, hfa, n3⟩; have HFA := hid hfa; have N3 := hid n3; have hfr := hfa.room; have hfc := hfa.cap; unfold maxLen at hfc; clear hfa n3) | (go_at_call 59; refine (HTT.out _ _ _ HFA.out).mono ?_; rintro e w4 ⟨rfl, n4⟩; have N4 := hid n4; clear n4))
          go_ret2
          exact ⟨a', c', rfl, HFA.out.new N4.out, H1.out.trans (N3.out.trans N4.out)⟩
end Go.Proofs.YtnccfikimmolgaaGreatDoor

namespace Go.Proofs.YtnccfikimmolgaaGreatDoor
set_option linter.unusedSimpArgs false
set_option linter.unusedVariables false
open Go.RowKit

theorem info_string : (Tryz.prog.info? 9).map (fun i => (i.zero, i.size, i.bytes)) = some (some (.string ⟨#[]⟩), 1, 16) := by kernel_rfl
theorem row_empty (w : World) (base : Nat) (h : base ≤ w.heap.size) : (w.alloc (.cells #[] 9)).ownsRow base 9 1 (.slice (some ⟨w.heap.size, 0, none⟩) 0 0) 0 [] :=
  ⟨rfl, .inr ⟨w.heap.size, 0, #[], rfl, h, Blk.new w #[] 9, Nat.le_refl _, by simp [maxLen], rfl, rfl⟩⟩
theorem copy_new2 {wr w1 : World} (n : New wr w1) (u : Value) (o : Obj) : New wr ((w1.setCell ⟨wr.heap.size, 0, none⟩ u).alloc o) :=
  (Mod.set n _ _ (.inr (Nat.le_refl _))).alloc _
theorem bare_next {l : List FileV} {k : Nat} (h : k < l.length) : bareL (l.take (k + 1)) = bareL (l.take k) ++ (if l[k].pad then [] else [l[k]]) := by
  unfold bareL
  rw [List.take_add_one, List.getElem?_eq_getElem h]
  simp only [Option.toList, List.filter_append]
  cases hq : l[k].pad <;> simp [hq]
end Go.Proofs.YtnccfikimmolgaaGreatDoor

namespace Go.Proofs.YtnccfikimmolgaaGreatDoor
set_option linter.unusedSimpArgs false
set_option linter.unusedVariables false
open Go.RowKit

theorem rlack_is {piece : Int} (h : pieceOf piece = true) {x : Int} (hx : 0 ≤ x) : (wrap64 (piece - x % piece)).tmod piece = (-x) % piece := by
  have hp := piece_range h
  have h1 := Int.emod_nonneg x (show piece ≠ 0 by omega)
  have h2 := Int.emod_lt_of_pos x (show 0 < piece by omega)
  rw [show wrap64 (piece - x % piece) = piece - x % piece by unfold wrap64; omega, Int.tmod_eq_emod_of_nonneg (by omega), Int.sub_emod, Int.emod_self, Int.emod_emod_of_dvd _ (Int.dvd_refl piece)]
  rw [show -x = 0 - x by omega, Int.sub_emod 0 x]
  simp
theorem lack_pos {piece x : Int} (hx : 0 ≤ x) (h : 0 < (-x) % piece) : 0 < x := by
  rcases Int.lt_or_eq_of_le hx with h1 | h1
  · exact h1
  · subst h1
    simp at h
end Go.Proofs.YtnccfikimmolgaaGreatDoor
