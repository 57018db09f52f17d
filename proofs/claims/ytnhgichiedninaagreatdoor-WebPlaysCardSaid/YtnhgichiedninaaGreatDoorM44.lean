/-
  Several texts in one, in their build order. The walks of the reference's Total; of package files: the ways of pieces, how many there are. Conditions: the list lies as told; the library's table is as laid.
-/
import Derived.Test.YtnhgichiedninaaGreatDoorM27
import Derived.Test.YtnhgichiedninaaGreatDoorM43
namespace Go.Proofs.YtnhgichiedninaaGreatDoor
set_option linter.unusedSimpArgs false
set_option linter.unusedVariables false
open Go.RowKit

theorem rvalid_t (a : Option Addr) (c : Nat) (l : List FileV) (w : World) (h : FilesAt w a c l) (ht : Tab w) :
    Calls Tryz.prog 61 #[.slice a l.length c] w fun e w' => e = .returned (.bool (validOf l)) ∧ New w w' := rvalid_any a c l w h
def hasN (f : FileV) : Bool := decide (0 < f.len) && !f.pad
def countOf (f : FileV) (piece : Int) : Int := if hasN f then (f.len + piece - 1) / piece else 0
set_option maxHeartbeats 1000000 in
theorem has_any (a : Option Addr) (n c : Nat) (piece : Int) (pa : Option Addr) (pc : Nat) (f : FileV) (w : World) :
    Calls Tryz.prog 213 #[.agg #[.slice a n c, .int .i64 piece], fileV pa pc f] w fun e w' => e = .returned (.bool (hasN f)) ∧ New w w' := by
  cases h1 : decide (0 < f.len) with
  | true =>
    have HE := hid (show hasN f = !f.pad by simp only [hasN, h1]; rfl)
    go_enter Tryz.func213, Tryz.ntmps213
    go_wp2
    all_goals go_ret
    all_goals exact ⟨ret_bool HE.out.symm, ((Mod.refl _ _).alloc _).alloc _⟩
  | false =>
    have HE := hid (show hasN f = false by simp only [hasN, h1]; rfl)
    go_enter Tryz.func213, Tryz.ntmps213
    go_wp2
    all_goals go_ret
    all_goals exact ⟨ret_bool HE.out.symm, ((Mod.refl _ _).alloc _).alloc _⟩
set_option maxRecDepth 100000 in
set_option maxHeartbeats 1000000 in
theorem count_any (a : Option Addr) (n c : Nat) (piece : Int) (pa : Option Addr) (pc : Nat) (f : FileV) (w : World) (h1 : 0 ≤ f.len) (h2 : f.len ≤ 65536) (h3 : 16 ≤ piece) (h4 : piece ≤ 1024) :
    Calls Tryz.prog 216 #[.agg #[.slice a n c, .int .i64 piece], fileV pa pc f] w fun e w' => e = .returned (.int .i64 (countOf f piece)) ∧ New w w' := by
  have HH := hid (fun w => has_any a n c piece pa pc f w)
  cases hf : hasN f with
  | false =>
    rw [hf] at HH
    have HE := hid (show countOf f piece = 0 by simp [countOf, hf])
    clear hf
    go_enter Tryz.func216, Tryz.ntmps216
    go_wp2_with (go_at_call 213; refine (HH.out _).mono ?_; rintro e w1 ⟨rfl, n1⟩; have N1 := hid n1; clear n1)
    go_ret
    exact ⟨ret_int HE.out.symm, Mod.trans (((Mod.refl _ _).alloc _).alloc _) N1.out⟩
  | true =>
    rw [hf] at HH
    have HE := hid (show countOf f piece = (f.len + piece - 1) / piece by simp [countOf, hf])
    have hp : ¬ piece = 0 := by omega
    clear hf
    go_enter Tryz.func216, Tryz.ntmps216
    go_wp2_with (go_at_call 213; refine (HH.out _).mono ?_; rintro e w1 ⟨rfl, n1⟩; have N1 := hid n1; have B1 := hid (n1.blk ((Blk.new w #[.slice a n c, .int .i64 piece] 220).alloc _)); have B2 := hid (n1.blk (Blk.newAt (w := w.alloc (.cells #[.slice a n c, .int .i64 piece] 220)) (b := w.heap.size + 1) (cs := #[.slice pa f.path.length pc, .int .i64 f.len, .bool f.pad]) (t := 60) (by simp))); have c1 : w1.cell? ⟨w.heap.size, 1, none⟩ = some (.int .i64 piece) := B1.out.cellv 1 rfl; have c2 : w1.cell? ⟨w.heap.size + 1, 1, none⟩ = some (.int .i64 f.len) := B2.out.cellv 1 rfl; clear n1)
    go_ret
    exact ⟨ret_int HE.out.symm, Mod.trans (((Mod.refl _ _).alloc _).alloc _) N1.out⟩

def countsOf (l : List FileV) (piece : Int) : Int := (l.map (countOf · piece)).sum
theorem counts_next {l : List FileV} {k : Nat} {piece : Int} (h : k < l.length) : countsOf (l.take (k + 1)) piece = countsOf (l.take k) piece + countOf l[k] piece := by
  unfold countsOf
  rw [List.take_add_one, List.getElem?_eq_getElem h]
  simp only [Option.toList, List.map_append, List.map_cons, List.map_nil, List.sum_append, List.sum_cons, List.sum_nil]
  omega
theorem count_bound {f : FileV} {piece : Int} (h1 : 0 ≤ f.len) (h2 : f.len ≤ 65536) (h3 : 16 ≤ piece) (h4 : piece ≤ 1024) : 0 ≤ countOf f piece ∧ countOf f piece ≤ 70000 := by
  unfold countOf
  split
  · have := Int.ediv_nonneg (show 0 ≤ f.len + piece - 1 by omega) (show 0 ≤ piece by omega)
    have := Int.ediv_le_self piece (show 0 ≤ f.len + piece - 1 by omega)
    omega
  · omega
set_option maxRecDepth 100000 in
set_option maxHeartbeats 1000000 in
theorem apart_pieces (a : Option Addr) (c : Nat) (l : List FileV) (piece : Int) (w : World) (h : FilesAt w a c l) (hl : l.length ≤ 40) (hf : ∀ f ∈ l, 0 ≤ f.len ∧ f.len ≤ 65536) (h3 : 16 ≤ piece) (h4 : piece ≤ 1024) :
    Calls Tryz.prog 214 #[.agg #[.slice a l.length c, .int .i64 piece]] w fun e w' => e = .returned (.int .i64 (countsOf l piece)) ∧ New w w' := by
  have hm1 := h.room; have hm2 := h.cap
  unfold maxLen at hm2
  by_cases hz : 0 < l.length
  · obtain ⟨b1, o1, rfl, hb1, hc1⟩ := h.get hz
    have HC1 := hid hc1
    have HF := hid hf
    clear h hc1 hf
    go_enter Tryz.func214, Tryz.ntmps214
    go_wp2
    go_loopw [9, 3] (fun i n wr => ∃ (k : Nat) (x : Int), i = .int .i64 k ∧ n = .int .i64 x ∧ x = countsOf (l.take k) piece ∧ 0 ≤ x ∧ x ≤ 70000 * k ∧ k ≤ l.length ∧ Blk wr w.heap.size #[.slice (some ⟨b1, o1, none⟩) l.length c, .int .i64 piece] 220 ∧ New w wr) (fun i _ _ => l.length - (intOf i).toNat)
    case atStart => exact ⟨0, 0, rfl, rfl, rfl, by omega, by omega, by omega, Blk.new _ _ _, (Mod.refl _ _).alloc _⟩
    case round =>
      obtain ⟨k, x, rfl, rfl, hx, hx0, hx1, hk, hB, hn⟩ := hrel
      have HN := hid hn
      have HX := hid hx
      have HB := hid hB
      have q0 := hB.cellv 0 (v := .slice (some ⟨b1, o1, none⟩) l.length c) rfl
      have q1 := hB.cellv 1 (v := .int .i64 piece) rfl
      have q2 := hB.lt
      clear hB hx
      by_cases hlt : k < l.length
      · obtain ⟨pa, pc, g0, g1, g2, -, g3⟩ := (HC1.out k hlt).new hn
        clear hn g3
        have HS := hid (counts_next (piece := piece) hlt)
        have hff := HF.out _ (List.getElem_mem hlt)
        obtain ⟨f, hf⟩ : ∃ f, f = l[k] := ⟨_, rfl⟩
        rw [← hf] at g0 g1 g2 HS hff
        clear hf
        have HCT := hid (fun w => count_any (some ⟨b1, o1, none⟩) l.length c piece pa pc f w hff.1 hff.2 h3 h4)
        obtain ⟨y0, y1⟩ := count_bound hff.1 hff.2 h3 h4
        clear hff
        go_wp2_with (go_at_call 216; refine (HCT.out _).mono ?_; rintro e w1 ⟨rfl, n1⟩; have N1 := hid (Mod.trans ((Mod.refl (fun _ => False) wr).alloc _) n1); clear n1)
        exact ⟨⟨k + 1, x + countOf f piece, by simp, rfl, by rw [HS.out, HX.out], by omega, by omega, by omega, N1.out.blk HB.out (fun x => x), HN.out.trans N1.out⟩, by simp [intOf]; omega⟩
      · have hkl : l.take k = l := List.take_of_length_le (by omega)
        rw [hkl] at HX
        clear hkl hn
        go_wp2
        go_ret
        exact ⟨ret_int HX.out, HN.out⟩
  · obtain rfl : l = [] := List.eq_nil_of_length_eq_zero (by omega)
    clear h hf
    go_enter Tryz.func214, Tryz.ntmps214
    go_wp2
    refine wp_loop_rounds 1 ?_
    rw [rounds_succ]
    go_wp2
    go_ret
    exact ⟨rfl, (Mod.refl _ _).alloc _⟩

set_option maxRecDepth 100000 in
set_option maxHeartbeats 2000000 in
theorem row_pieces (a : Option Addr) (c : Nat) (l : List FileV) (piece : Int) (w : World) (h : FilesAt w a c l) (hf : ∀ f ∈ l, 0 ≤ f.len) (hs0 : 0 ≤ sumOf l) (hs : sumOf l ≤ 65536) (h3 : 16 ≤ piece) (h4 : piece ≤ 1024) :
    Calls Tryz.prog 220 #[.agg #[.slice a l.length c, .int .i64 piece]] w fun e w' => e = .returned (.int .i64 ((sumOf l + piece - 1) / piece)) ∧ New w w' := by
  have HT := hid (fun w' (n : New w w') => total_any a c l w' (h.new n) hf (by omega))
  have hp : ¬ piece = 0 := by omega
  clear h hf
  go_enter Tryz.func220, Tryz.ntmps220
  go_wp2_with fail
  go_region_held3 (fun w' => w'.cell? ⟨w.heap.size, 0, none⟩ = some (.slice a l.length c) ∧ w'.cell? ⟨w.heap.size, 1, none⟩ = some (.int .i64 piece)) ((first | exact ⟨r0, r1⟩ | go_keep)) (first | (go_at_call 222; refine (HT.out _ ?_).mono ?_; (focus (exact (((Mod.refl _ _).alloc _).drew))); rintro e w1 ⟨rfl, n1⟩; have N1 := hid (Mod.trans ((((Mod.refl (fun _ => False) w).alloc _)).drew) n1); have B1 := n1.blk (Blk.drew (Blk.new w #[.slice a l.length c, .int .i64 piece] 221)); have r0 : w1.cell? ⟨w.heap.size, 0, none⟩ = some (.slice a l.length c) := B1.cellv 0 rfl; have r1 : w1.cell? ⟨w.heap.size, 1, none⟩ = some (.int .i64 piece) := B1.cellv 1 rfl; clear n1 B1))
  all_goals go_wp2
  all_goals go_ret
  all_goals (refine ⟨ret_int ?_, N1.out⟩; rw [IntWalk.i64_in (sumOf l + piece) (by omega), IntWalk.i64_in (sumOf l + piece - 1) (by omega), Int.tdiv_eq_ediv_of_nonneg (by omega)]; exact IntWalk.i64_in _ (by
    have := Int.ediv_nonneg (show 0 ≤ sumOf l + piece - 1 by omega) (show 0 ≤ piece by omega)
    have := Int.ediv_le_self piece (show 0 ≤ sumOf l + piece - 1 by omega)
    omega))

/-- The way of pieces, or the error. -/
def wayErr (l : List FileV) (piece : Int) : Int := if validOf l then (if pieceOf piece then 0 else 7) else 1
def wayV (a : Option Addr) (n c : Nat) (piece : Int) (new : Bool) : Value := if new then .iface 220 (.agg #[.slice a n c, .int .i64 piece]) else .iface 221 (.agg #[.slice a n c, .int .i64 piece])
set_option maxRecDepth 100000 in
set_option maxHeartbeats 2000000 in
theorem ways_bad (a : Option Addr) (c : Nat) (l : List FileV) (piece : Int) (new : Bool) (w : World) (h : FilesAt w a c l) (ht : Tab w) (h0 : -9223372036854775808 ≤ piece) (h1 : piece ≤ 9223372036854775807) (hb : wayErr l piece ≠ 0) :
    Calls Tryz.prog 128 #[.slice a l.length c, .int .i64 piece, .bool new] w fun e w' => e = .returned (.tuple #[.nilIface, .int .i64 (wayErr l piece)]) ∧ New w w' := by
  cases hv : validOf l with
  | false =>
    have HV := hid (hv ▸ valid_any a c l w h ht : Calls Tryz.prog 64 #[.slice a l.length c] w fun e w' => e = .returned (.bool false) ∧ New w w')
    have e : wayErr l piece = 1 := by simp [wayErr, hv]
    rw [e]
    clear h ht hv e hb
    go_enter Tryz.func128, Tryz.ntmps128
    go_wp2_with (first | (go_at_call 64; refine HV.out.mono ?_; rintro e w1 ⟨rfl, h1⟩; have H1 := hid h1; clear h1))
    go_ret2
    exact ⟨rfl, H1.out⟩
  | true =>
    have HV := hid (hv ▸ valid_any a c l w h ht : Calls Tryz.prog 64 #[.slice a l.length c] w fun e w' => e = .returned (.bool true) ∧ New w w')
    cases hp : pieceOf piece with
    | false =>
      have HP := hid (fun w => (hp ▸ piece_any piece w h0 h1 : Calls Tryz.prog 153 #[.int .i64 piece] w fun e w' => e = .returned (.bool false) ∧ w = w'))
      have e : wayErr l piece = 7 := by simp [wayErr, hv, hp]
      rw [e]
      clear h ht hv hp e hb
      go_enter Tryz.func128, Tryz.ntmps128
      go_wp2_with (first | (go_at_call 64; refine HV.out.mono ?_; rintro e w1 ⟨rfl, h1⟩; have H1 := hid h1; clear h1) | (go_at_call 153; refine (HP.out _).mono ?_; rintro e w2 ⟨rfl, rfl⟩))
      go_ret2
      exact ⟨rfl, H1.out⟩
    | true => exact absurd (by simp [wayErr, hv, hp]) hb
theorem way_ok {l : List FileV} {piece : Int} (h : wayErr l piece = 0) : validOf l = true ∧ pieceOf piece = true := by
  unfold wayErr at h
  split at h
  · split at h
    · next a b => exact ⟨a, b⟩
    · cases h
  · cases h
set_option maxRecDepth 100000 in
set_option maxHeartbeats 2000000 in
theorem ways_ok (a : Option Addr) (c : Nat) (l : List FileV) (piece : Int) (new : Bool) (w : World) (h : FilesAt w a c l) (ht : Tab w) (h0 : -9223372036854775808 ≤ piece) (h1 : piece ≤ 9223372036854775807) (hb : wayErr l piece = 0) :
    Calls Tryz.prog 128 #[.slice a l.length c, .int .i64 piece, .bool new] w fun e w' => e = .returned (.tuple #[wayV a l.length c piece new, .int .i64 0]) ∧ New w w' := by
  obtain ⟨hv, hp⟩ := way_ok hb
  have HV := hid (hv ▸ valid_any a c l w h ht : Calls Tryz.prog 64 #[.slice a l.length c] w fun e w' => e = .returned (.bool true) ∧ New w w')
  have HP := hid (fun w => (hp ▸ piece_any piece w h0 h1 : Calls Tryz.prog 153 #[.int .i64 piece] w fun e w' => e = .returned (.bool true) ∧ w = w'))
  clear h ht hv hp hb
  cases new with
  | true =>
    go_enter Tryz.func128, Tryz.ntmps128
    go_wp2_with (first | (go_at_call 64; refine HV.out.mono ?_; rintro e w1 ⟨rfl, h1⟩; have H1 := hid h1; clear h1) | (go_at_call 153; refine (HP.out _).mono ?_; rintro e w2 ⟨rfl, rfl⟩))
    go_ret2
    exact ⟨rfl, H1.out⟩
  | false =>
    go_enter Tryz.func128, Tryz.ntmps128
    go_wp2_with (first | (go_at_call 64; refine HV.out.mono ?_; rintro e w1 ⟨rfl, h1⟩; have H1 := hid h1; clear h1) | (go_at_call 153; refine (HP.out _).mono ?_; rintro e w2 ⟨rfl, rfl⟩))
    go_ret2
    exact ⟨rfl, H1.out⟩

theorem method_apart (v : Value) (w : World) : (method 380 220 v "covey/files.pieces").run Tryz.prog w = .ok (214, v) w := by kernel_rfl
theorem method_row (v : Value) (w : World) : (method 380 221 v "covey/files.pieces").run Tryz.prog w = .ok (220, v) w := by kernel_rfl
/-- Pieces. -/
def piecesOf (l : List FileV) (piece : Int) (new : Bool) : Int := if new then countsOf l piece else (sumOf l + piece - 1) / piece
theorem piece_range {piece : Int} (h : pieceOf piece = true) : 16 ≤ piece ∧ piece ≤ 1024 := by
  simp only [pieceOf, decide_eq_true_eq] at h
  omega
theorem each_len {l : List FileV} (h0 : ∀ f ∈ l, 0 ≤ f.len) : ∀ f ∈ l, f.len ≤ sumOf l := by
  induction l with
  | nil => simp
  | cons x r ih =>
    intro f hf
    have hr := ih (fun g hg => h0 g (.tail _ hg))
    have hx := h0 x (.head _)
    have hs := (sum_mono r (fun g hg => h0 g (.tail _ hg)) 0).2
    simp only [sumOf, List.take_zero, List.map_nil, List.sum_nil, List.map_cons, List.sum_cons] at *
    cases hf with
    | head => omega
    | tail _ hf => have := hr f hf; omega
set_option maxRecDepth 100000 in
set_option maxHeartbeats 2000000 in
theorem Pieces_ok (a : Option Addr) (c : Nat) (l : List FileV) (piece : Int) (new : Bool) (w : World) (h : FilesAt w a c l) (ht : Tab w) (h0 : -9223372036854775808 ≤ piece) (h1 : piece ≤ 9223372036854775807) (hb : wayErr l piece = 0) :
    Calls Tryz.prog 86 #[.slice a l.length c, .int .i64 piece, .bool new] w fun e w' => e = .returned (.tuple #[.int .i64 (piecesOf l piece new), .int .i64 0]) ∧ New w w' := by
  obtain ⟨hv, hp⟩ := way_ok hb
  obtain ⟨v1, v2, v3, v4⟩ := valid_facts hv
  obtain ⟨p1, p2⟩ := piece_range hp
  have v5 := each_len v3
  have v6 := (sum_mono l v3 0)
  have HWY := hid (ways_ok a c l piece new w h ht h0 h1 hb)
  have HAP := hid (fun w' (n : New w w') => apart_pieces a c l piece w' (h.new n) v2 (fun f hf => ⟨v3 f hf, by have := v5 f hf; omega⟩) p1 p2)
  have HRP := hid (fun w' (n : New w w') => row_pieces a c l piece w' (h.new n) v3 (by omega) v4 p1 p2)
  clear h ht hv hp hb v1 v2 v3 v4 v5 v6
  have hm1 := method_apart
  have hm2 := method_row
  cases new with
  | true =>
    go_enter Tryz.func86, Tryz.ntmps86
    go_wp2_with (first | (go_at_call 128; refine HWY.out.mono ?_; simp only [wayV, if_true]; rintro e w1 ⟨rfl, h1⟩; have H1 := hid h1; clear h1) | (go_at_call 214; refine (HAP.out _ H1.out).mono ?_; rintro e w2 ⟨rfl, h2⟩; have H2 := hid h2; clear h2))
    go_ret2
    exact ⟨rfl, H1.out.trans H2.out⟩
  | false =>
    go_enter Tryz.func86, Tryz.ntmps86
    go_wp2_with (first | (go_at_call 128; refine HWY.out.mono ?_; simp only [wayV]; rintro e w1 ⟨rfl, h1⟩; have H1 := hid h1; clear h1) | (go_at_call 220; refine (HRP.out _ H1.out).mono ?_; rintro e w2 ⟨rfl, h2⟩; have H2 := hid h2; clear h2))
    go_ret2
    exact ⟨rfl, H1.out.trans H2.out⟩
end Go.Proofs.YtnhgichiedninaaGreatDoor
