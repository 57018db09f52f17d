/-
  Several texts in one, in their build order. The walks of the reference's Pieces, Spans and Size; Pieces of package files, whatever is asked. Conditions: the list lies as told; the library's table is as laid.
-/
import Derived.Test.YtnccfikimmolgaaGreatDoorM39
import Derived.Test.YtnccfikimmolgaaGreatDoorM43
namespace Go.Proofs.YtnccfikimmolgaaGreatDoor
set_option linter.unusedSimpArgs false
set_option linter.unusedVariables false
open Go.RowKit Go.Shelf

def piecesRes (l : List FileV) (piece : Int) (new : Bool) : Int := if wayErr l piece = 0 then piecesOf l piece new else 0
set_option maxRecDepth 100000 in
set_option maxHeartbeats 2000000 in
theorem Pieces_bad (a : Option Addr) (c : Nat) (l : List FileV) (piece : Int) (new : Bool) (w : World) (h : FilesAt w a c l) (ht : Tab w) (h0 : -9223372036854775808 ≤ piece) (h1 : piece ≤ 9223372036854775807) (hb : wayErr l piece ≠ 0) :
    Calls Tryz.prog 28 #[.slice a l.length c, .int .i64 piece, .bool new] w fun e w' => e = .returned (.tuple #[.int .i64 0, .int .i64 (wayErr l piece)]) ∧ New w w' := by
  have HWY := hid (ways_bad a c l piece new w h ht h0 h1 hb)
  have h3 : ((wayErr l piece) == 0) = false := by simpa using hb
  have h4 : ((wayErr l piece) != 0) = true := by simpa using hb
  clear h ht hb
  go_enter Tryz.func28, Tryz.ntmps28
  go_wp2_with (first | (go_at_call 31; refine HWY.out.mono ?_; rintro e w1 ⟨rfl, h1⟩; have H1 := hid h1; clear h1))
  go_ret2
  exact ⟨rfl, H1.out⟩
theorem Pieces_any (a : Option Addr) (c : Nat) (l : List FileV) (piece : Int) (new : Bool) (w : World) (h : FilesAt w a c l) (ht : Tab w) (h0 : -9223372036854775808 ≤ piece) (h1 : piece ≤ 9223372036854775807) :
    Calls Tryz.prog 28 #[.slice a l.length c, .int .i64 piece, .bool new] w fun e w' => e = .returned (.tuple #[.int .i64 (piecesRes l piece new), .int .i64 (wayErr l piece)]) ∧ New w w' := by
  by_cases hb : wayErr l piece = 0
  · have e : piecesRes l piece new = piecesOf l piece new := by simp [piecesRes, hb]
    rw [e]
    have := Pieces_ok a c l piece new w h ht h0 h1 hb
    rw [hb]
    exact this
  · have e : piecesRes l piece new = 0 := by simp [piecesRes, hb]
    rw [e]
    exact Pieces_bad a c l piece new w h ht h0 h1 hb

theorem cut_length {l : List FileV} {piece : Int} (new : Bool) (hb : wayErr l piece = 0) : ((cutOf l piece new).length : Int) = piecesOf l piece new := by
  obtain ⟨hv, hp⟩ := way_ok hb
  obtain ⟨v1, v2, v3, v4⟩ := valid_facts hv
  obtain ⟨p1, p2⟩ := piece_range hp
  have := (pieces_le (new := new) hb).1
  rw [cut_is new (by omega) v3]
  simp
  omega
theorem cut_at {l : List FileV} {piece : Int} {new : Bool} (hb : wayErr l piece = 0) {i : Nat} (hi : (i : Int) < piecesOf l piece new) : (cutOf l piece new)[i]? = some (spansOf l piece new i) := by
  obtain ⟨hv, hp⟩ := way_ok hb
  obtain ⟨v1, v2, v3, v4⟩ := valid_facts hv
  obtain ⟨p1, p2⟩ := piece_range hp
  rw [cut_is new (by omega) v3]
  rw [List.getElem?_map, List.getElem?_range (by omega)]
  rfl
theorem OwnSS.rows {w : World} {base : Nat} {v : Value} {out : List (List SpanV)} {vs : List Value} (h : OwnSS w base v out vs) : ∃ a c, v = .slice a out.length c ∧ out.length ≤ c ∧ c ≤ maxLen ∧ (out = [] ∨ ∃ g, a = some ⟨g, 0, none⟩ ∧ g < w.heap.size ∧ ∀ (i : Nat) (hi : i < out.length), ∃ ra rc, w.cell? ⟨g, i, none⟩ = some (.slice ra out[i].length rc) ∧ SpansAt w ra rc out[i]) := by
  rcases h.row.2 with ⟨rfl, hn⟩ | ⟨g, cap, cur, rfl, hbg, hg, hnc, hcm, hcs, htake⟩
  · have : out = [] := List.eq_nil_of_length_eq_zero hn
    subst this
    exact ⟨none, 0, rfl, by simp, by simp [maxLen], .inl rfl⟩
  · refine ⟨some ⟨g, 0, none⟩, cap, rfl, hnc, hcm, .inr ⟨g, rfl, (Array.getElem?_eq_some_iff.1 hg).1, fun i hi => ?_⟩⟩
    have hlen := h.len
    have hu := List.getElem?_eq_getElem (l := vs) (i := i) (by omega)
    obtain ⟨ra, rc, e, hs⟩ := (h.each i _ _ (List.getElem?_eq_getElem hi) hu).spans
    refine ⟨ra, rc, ?_, hs⟩
    rw [World.ownsRow.cellAt h.row i (by omega), hu, e]
end Go.Proofs.YtnccfikimmolgaaGreatDoor
