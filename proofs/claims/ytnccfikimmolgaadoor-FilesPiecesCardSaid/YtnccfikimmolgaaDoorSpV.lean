/-
  The walks of the reference's Pieces, Spans and Size; Pieces of package files, whatever is asked. Conditions: the list lies as told; the library's table is as laid.
-/
import Derived.Test.YtnccfikimmolgaaDoorSpW
import Derived.Test.YtnccfikimmolgaaDoorRg
namespace Go.Proofs.YtnccfikimmolgaaDoor
set_option linter.unusedSimpArgs false
set_option linter.unusedVariables false
open Go.RowKit Go.Shelf

def piecesRes (l : List FileV) (piece : Int) (new : Bool) : Int := if wayErr l piece = 0 then piecesOf l piece new else 0
set_option maxRecDepth 100000 in
set_option maxHeartbeats 2000000 in
theorem Pieces_bad (a : Option Addr) (c : Nat) (l : List FileV) (piece : Int) (new : Bool) (w : World) (h : FilesAt w a c l) (ht : Tab w) (h0 : -9223372036854775808 ≤ piece) (h1 : piece ≤ 9223372036854775807) (hb : wayErr l piece ≠ 0) :
    Calls Tryd.prog 27 #[.slice a l.length c, .int .i64 piece, .bool new] w fun e w' => e = .returned (.tuple #[.int .i64 0, .int .i64 (wayErr l piece)]) ∧ New w w' := by
  have HWY := hid (ways_bad a c l piece new w h ht h0 h1 hb)
  have h3 : ((wayErr l piece) == 0) = false := by simpa using hb
  have h4 : ((wayErr l piece) != 0) = true := by simpa using hb
  clear h ht hb
  go_enter Tryd.func27, Tryd.ntmps27
  go_wp2_with (first | (go_at_call 49; refine HWY.out.mono ?_; rintro e w1 ⟨rfl, h1⟩; have H1 := hid h1; clear h1))
  go_ret2
  exact ⟨rfl, H1.out⟩
theorem Pieces_any (a : Option Addr) (c : Nat) (l : List FileV) (piece : Int) (new : Bool) (w : World) (h : FilesAt w a c l) (ht : Tab w) (h0 : -9223372036854775808 ≤ piece) (h1 : piece ≤ 9223372036854775807) :
    Calls Tryd.prog 27 #[.slice a l.length c, .int .i64 piece, .bool new] w fun e w' => e = .returned (.tuple #[.int .i64 (piecesRes l piece new), .int .i64 (wayErr l piece)]) ∧ New w w' := by
  by_cases hb : wayErr l piece = 0
  · have e : piecesRes l piece new = piecesOf l piece new := by simp [piecesRes, hb]
    rw [e]
    have := Pieces_ok a c l piece new w h ht h0 h1 hb
    rw [hb]
    exact this
  · have e : piecesRes l piece new = 0 := by simp [piecesRes, hb]
    rw [e]
    exact Pieces_bad a c l piece new w h ht h0 h1 hb

theorem cut_length {l : List FileV} {piece : Int} (new : Bool) (hb : wayErr l piece = 0) : ((cutOf l piece new).length : Int) = piecesOf l piece new := by
  obtain ⟨hv, hp⟩ := way_ok hb
  obtain ⟨v1, v2, v3, v4⟩ := valid_facts hv
  obtain ⟨p1, p2⟩ := piece_range hp
  have := (pieces_le (new := new) hb).1
  rw [cut_is new (by omega) v3]
  simp
  omega
theorem cut_at {l : List FileV} {piece : Int} {new : Bool} (hb : wayErr l piece = 0) {i : Nat} (hi : (i : Int) < piecesOf l piece new) : (cutOf l piece new)[i]? = some (spansOf l piece new i) := by
  obtain ⟨hv, hp⟩ := way_ok hb
  obtain ⟨v1, v2, v3, v4⟩ := valid_facts hv
  obtain ⟨p1, p2⟩ := piece_range hp
  rw [cut_is new (by omega) v3]
  rw [List.getElem?_map, List.getElem?_range (by omega)]
  rfl
theorem OwnSS.rows {w : World} {base : Nat} {v : Value} {out : List (List SpanV)} {vs : List Value} (h : OwnSS w base v out vs) : ∃ a c, v = .slice a out.length c ∧ out.length ≤ c ∧ c ≤ maxLen ∧ (out = [] ∨ ∃ g, a = some ⟨g, 0, none⟩ ∧ g < w.heap.size ∧ ∀ (i : Nat) (hi : i < out.length), ∃ ra rc, w.cell? ⟨g, i, none⟩ = some (.slice ra out[i].length rc) ∧ SpansAt w ra rc out[i]) := by
  rcases h.row.2 with ⟨rfl, hn⟩ | ⟨g, cap, cur, rfl, hbg, hg, hnc, hcm, hcs, htake⟩
  · have : out = [] := List.eq_nil_of_length_eq_zero hn
    subst this
    exact ⟨none, 0, rfl, by simp, by simp [maxLen], .inl rfl⟩
  · refine ⟨some ⟨g, 0, none⟩, cap, rfl, hnc, hcm, .inr ⟨g, rfl, (Array.getElem?_eq_some_iff.1 hg).1, fun i hi => ?_⟩⟩
    have hlen := h.len
    have hu := List.getElem?_eq_getElem (l := vs) (i := i) (by omega)
    obtain ⟨ra, rc, e, hs⟩ := (h.each i _ _ (List.getElem?_eq_getElem hi) hu).spans
    refine ⟨ra, rc, ?_, hs⟩
    rw [World.ownsRow.cellAt h.row i (by omega), hu, e]
set_option maxRecDepth 100000 in
set_option maxHeartbeats 2000000 in
theorem rPieces_any (a : Option Addr) (c : Nat) (l : List FileV) (piece : Int) (new : Bool) (w : World) (h : FilesAt w a c l) (h0 : -9223372036854775808 ≤ piece) (h1 : piece ≤ 9223372036854775807) :
    Calls Tryd.prog 30 #[.slice a l.length c, .int .i64 piece, .bool new] w fun e w' => e = .returned (.tuple #[.int .i64 (piecesRes l piece new), .int .i64 (wayErr l piece)]) ∧ New w w' := by
  have HC := hid (rcheck_any a c l piece w h h0 h1)
  by_cases hb : wayErr l piece = 0
  · have e : piecesRes l piece new = piecesOf l piece new := by simp [piecesRes, hb]
    rw [e]
    obtain ⟨hv, hp⟩ := way_ok hb
    obtain ⟨v1, v2, v3, v4⟩ := valid_facts hv
    obtain ⟨p1, p2⟩ := piece_range hp
    have HCU := hid (fun W (n : New w W) => cut_any a c l piece new W (h.new n) v2 v3 v4 p1 p2)
    have HLN := hid (cut_length new hb)
    have hle := pieces_le (new := new) hb
    rw [hb] at HC ⊢
    obtain ⟨pn, hpn⟩ : ∃ pn, pn = piecesOf l piece new := ⟨_, rfl⟩
    rw [← hpn] at HLN hle ⊢
    clear h hv hp hb v1 v2 v3 v4 e hpn
    go_enter Tryd.func30, Tryd.ntmps30
    go_wp2_with fail
    refine HC.out.mono ?_
    rintro e w1 ⟨rfl, n1⟩
    have N1 := hid n1
    clear n1
    go_wp2_with fail
    refine (HCU.out _ N1.out).mono ?_
    rintro e w2 ⟨v, vs, rfl, hO, n2⟩
    obtain ⟨ra, rc, rfl, -⟩ := hO.rows
    have N2 := hid n2
    have hl := HLN.out
    obtain ⟨m, hm⟩ : ∃ m, m = (cutOf l piece new).length := ⟨_, rfl⟩
    rw [← hm] at hl ⊢
    subst hl
    clear n2 hO hm
    go_wp2
    go_ret2
    exact ⟨rfl, N1.out.trans N2.out⟩
  · have e : piecesRes l piece new = 0 := by simp [piecesRes, hb]
    rw [e]
    have h3 : ((wayErr l piece) == 0) = false := by simpa using hb
    have h4 : ((wayErr l piece) != 0) = true := by simpa using hb
    clear h e hb
    go_enter Tryd.func30, Tryd.ntmps30
    go_wp2_with fail
    refine HC.out.mono ?_
    rintro e w1 ⟨rfl, n1⟩
    have N1 := hid n1
    clear n1
    go_wp2
    go_ret2
    exact ⟨rfl, N1.out⟩
set_option maxRecDepth 100000 in
set_option maxHeartbeats 2000000 in
theorem rSpans_any (a : Option Addr) (c : Nat) (l : List FileV) (piece i : Int) (new : Bool) (w : World) (h : FilesAt w a c l) (h0 : -9223372036854775808 ≤ piece) (h1 : piece ≤ 9223372036854775807) :
    Calls Tryd.prog 33 #[.slice a l.length c, .int .i64 piece, .bool new, .int .i64 i] w fun e w' => ∃ a' c', e = .returned (.tuple #[.slice a' (spansRes l piece new i).length c', .int .i64 (spansErr l piece new i)]) ∧ SpansAt w' a' c' (spansRes l piece new i) ∧ New w w' := by
  have HC := hid (rcheck_any a c l piece w h h0 h1)
  by_cases hb : wayErr l piece = 0
  · obtain ⟨hv, hp⟩ := way_ok hb
    obtain ⟨v1, v2, v3, v4⟩ := valid_facts hv
    obtain ⟨p1, p2⟩ := piece_range hp
    have HCU := hid (fun W (n : New w W) => cut_any a c l piece new W (h.new n) v2 v3 v4 p1 p2)
    have hln := cut_length new hb
    have hle := pieces_le (new := new) hb
    by_cases hi : i < 0 ∨ piecesOf l piece new ≤ i
    · have e : spansErr l piece new i = 7 := by simp only [spansErr, hb, if_true, hi]
      have e2 : spansRes l piece new i = [] := by simp [spansRes, e]
      rw [e2, e]
      rw [hb] at HC
      rw [← hln] at hle hi
      obtain ⟨R, hR⟩ : ∃ R, R = cutOf l piece new := ⟨_, rfl⟩
      rw [← hR] at hle hi HCU
      clear h hv hp hb v1 v2 v3 v4 e e2 hln hR
      have hR := hid hi
      clear hi
      by_cases hi0 : i < 0
      · go_enter Tryd.func33, Tryd.ntmps33
        go_wp2_with fail
        refine HC.out.mono ?_
        rintro e w1 ⟨rfl, n1⟩
        have N1 := hid n1
        clear n1
        go_wp2_with fail
        refine (HCU.out _ N1.out).mono ?_
        rintro e w2 ⟨v, vs, rfl, hO, n2⟩
        obtain ⟨ra, rc, rfl, -⟩ := hO.rows
        have N2 := hid (N1.out.trans n2)
        clear n2 hO
        go_wp2
        go_ret2
        exact ⟨none, 0, rfl, SpansAt.nil _, N2.out⟩
      · have hi1 : (R.length : Int) ≤ i := hR.out.resolve_left hi0
        go_enter Tryd.func33, Tryd.ntmps33
        go_wp2_with fail
        refine HC.out.mono ?_
        rintro e w1 ⟨rfl, n1⟩
        have N1 := hid n1
        clear n1
        go_wp2_with fail
        refine (HCU.out _ N1.out).mono ?_
        rintro e w2 ⟨v, vs, rfl, hO, n2⟩
        obtain ⟨ra, rc, rfl, -⟩ := hO.rows
        have N2 := hid (N1.out.trans n2)
        clear n2 hO
        go_wp2
        go_ret2
        exact ⟨none, 0, rfl, SpansAt.nil _, N2.out⟩
    · have e : spansErr l piece new i = 0 := by simp only [spansErr, hb, if_true, hi, if_false]
      have e2 : spansRes l piece new i = spansOf l piece new i := by simp [spansRes, e]
      rw [e2, e]
      obtain ⟨j, rfl⟩ := Int.eq_ofNat_of_zero_le (show 0 ≤ i by omega)
      have hat := cut_at (new := new) hb (i := j) (by omega)
      rw [hb] at HC
      have hj : j < (cutOf l piece new).length := by omega
      rw [List.getElem?_eq_getElem hj] at hat
      obtain ⟨R, hR⟩ : ∃ R, R = cutOf l piece new := ⟨_, rfl⟩
      have hle2 : (R.length : Int) ≤ 70000 := by rw [hR]; omega
      rw [← hR] at HCU
      simp only [← hR] at hat hj
      have hS : R[j] = spansOf l piece new j := Option.some.inj hat
      obtain ⟨S, hSS⟩ : ∃ S, S = spansOf l piece new j := ⟨_, rfl⟩
      rw [← hSS] at hS ⊢
      have HRS := hid hS
      clear h hv hp hb v1 v2 v3 v4 e e2 hln hR hle hat hi hS hSS
      have hjI : ((j : Int)) < (R.length : Int) := by omega
      go_enter Tryd.func33, Tryd.ntmps33
      go_wp2_with fail
      refine HC.out.mono ?_
      rintro e w1 ⟨rfl, n1⟩
      have N1 := hid n1
      clear n1
      go_wp2_with fail
      refine (HCU.out _ N1.out).mono ?_
      rintro e w2 ⟨v, vs, rfl, hO, n2⟩
      obtain ⟨ra, rc, rfl, hr1, hr2, hr3⟩ := hO.rows
      unfold maxLen at hr2
      rcases hr3 with hr3 | ⟨g, rfl, hg, hrow⟩
      · subst hr3; simp at hj
      obtain ⟨sa, sc, hc0, hsp⟩ := hrow j hj
      have N2 := hid (N1.out.trans n2)
      rw [HRS.out] at hc0 hsp
      have HSP := hid hsp
      clear n2 hO hrow hsp
      go_wp2
      go_ret2
      exact ⟨sa, sc, rfl, HSP.out, N2.out⟩
  · have e : spansErr l piece new i = wayErr l piece := by simp [spansErr, hb]
    have e2 : spansRes l piece new i = [] := by simp [spansRes, e, hb]
    rw [e2, e]
    have h3 : ((wayErr l piece) == 0) = false := by simpa using hb
    have h4 : ((wayErr l piece) != 0) = true := by simpa using hb
    clear h e e2 hb
    go_enter Tryd.func33, Tryd.ntmps33
    go_wp2_with fail
    refine HC.out.mono ?_
    rintro e w1 ⟨rfl, n1⟩
    have N1 := hid n1
    clear n1
    go_wp2
    go_ret2
    exact ⟨none, 0, rfl, SpansAt.nil _, N1.out⟩
set_option maxRecDepth 100000 in
set_option maxHeartbeats 2000000 in
theorem rSize_any (a : Option Addr) (c : Nat) (l : List FileV) (piece i : Int) (new : Bool) (w : World) (h : FilesAt w a c l) (h0 : -9223372036854775808 ≤ piece) (h1 : piece ≤ 9223372036854775807) :
    Calls Tryd.prog 32 #[.slice a l.length c, .int .i64 piece, .bool new, .int .i64 i] w fun e w' => e = .returned (.tuple #[.int .i64 (cntOf (spansRes l piece new i)), .int .i64 (spansErr l piece new i)]) ∧ New w w' := by
  have HSP := hid (rSpans_any a c l piece i new w h h0 h1)
  have ht := True.intro
  obtain ⟨hn0, hs1⟩ := res_bounds (l := l) (piece := piece) (new := new) (i := i)
  have HB := hid (fun k => cnt_take hn0 k)
  obtain ⟨S, hS⟩ : ∃ S, S = spansRes l piece new i := ⟨_, rfl⟩
  obtain ⟨E, hE⟩ : ∃ E, E = spansErr l piece new i := ⟨_, rfl⟩
  rw [← hS] at HB hs1 HSP ⊢
  rw [← hE] at HSP ⊢
  clear hS hE hn0 h ht
  go_enter Tryd.func32, Tryd.ntmps32
  go_wp2_with fail
  refine HSP.out.mono ?_
  rintro e w1 ⟨a', c', rfl, hs, n1⟩
  have N1 := hid n1
  clear n1
  have hr := hs.room; have hc := hs.cap
  unfold maxLen at hc
  by_cases hz : 0 < S.length
  · obtain ⟨b1, o1, rfl, hb1, hc1⟩ := hs.get hz
    have HC1 := hid hc1
    clear hs hc1
    go_wp2
    go_loopw [25, 12] (fun k n wr => ∃ (j : Nat) (x : Int), k = .int .i64 j ∧ n = .int .i64 x ∧ x = cntOf (S.take j) ∧ j ≤ S.length ∧ New w1 wr) (fun k _ _ => S.length - (intOf k).toNat)
    case atStart => exact ⟨0, 0, rfl, rfl, rfl, by omega, Mod.refl _ _⟩
    case round =>
      obtain ⟨j, x, rfl, rfl, hx, hj, hn⟩ := hrel
      have HN := hid hn
      have HX := hid hx
      have hb0 := HB.out j
      rw [← hx] at hb0
      obtain ⟨x0, x1⟩ := hb0
      clear hx
      by_cases hlt : j < S.length
      · obtain ⟨g0, g1, g2⟩ := HC1.out j hlt
        have g0 := hn.cellv g0; have g1 := hn.cellv g1; have g2 := hn.cellv g2
        clear hn
        have hb2 := HB.out (j + 1)
        have hnx := cnt_next hlt
        rw [← HX.out] at hnx
        obtain ⟨s, hs⟩ : ∃ s, s = S[j] := ⟨_, rfl⟩
        rw [← hs] at g0 g1 g2 hnx
        clear hs
        rw [hnx] at hb2
        have HNX := hid hnx
        obtain ⟨y0, y1⟩ := hb2
        have y1' : x + s.cnt ≤ 65536 := by omega
        clear hnx y1
        go_wp2
        go_roundw
        case rel => exact ⟨j + 1, x + s.cnt, by simp, rfl, HNX.out.symm, by omega, HN.out.alloc _⟩
        case measure => simp [intOf]; omega
      · have hk : S.take j = S := List.take_of_length_le (by omega)
        rw [hk] at HX
        clear hk hn
        go_wp2
        go_ret2
        exact ⟨ret_pair HX.out, N1.out.trans HN.out⟩
  · obtain rfl : S = [] := List.eq_nil_of_length_eq_zero (by omega)
    clear hs
    go_wp2
    refine wp_loop_rounds 1 ?_
    rw [rounds_succ]
    go_wp2
    go_ret2
    exact ⟨rfl, N1.out⟩
end Go.Proofs.YtnccfikimmolgaaDoor
