/-
  Several texts in one, in their build order. Spans as they lie; Spans and Size of package files, whatever is asked; the law's comparison of two lists of spans. Conditions: the list lies as told; the library's table is as laid.
-/
import Derived.Test.YtnccfikimmolgaaGreatDoorM32
namespace Go.Proofs.YtnccfikimmolgaaGreatDoor
set_option linter.unusedSimpArgs false
set_option linter.unusedVariables false
open Go.RowKit Go.Shelf

/-- The slice of length S.length and capacity c at a holds the spans S. -/
structure SpansAt (w : World) (a : Option Addr) (c : Nat) (S : List SpanV) : Prop where
  room : S.length ≤ c
  cap : c ≤ maxLen
  at' : S = [] ∨ ∃ b o, a = some ⟨b, o, none⟩ ∧ b < w.heap.size ∧ ∀ (i : Nat) (s : SpanV), S[i]? = some s → w.cell? ⟨b, o + i * 3, none⟩ = some (.int .i64 s.file) ∧ w.cell? ⟨b, o + i * 3 + 1, none⟩ = some (.int .i64 s.frm) ∧ w.cell? ⟨b, o + i * 3 + 2, none⟩ = some (.int .i64 s.cnt)
theorem SpansAt.new {w w' : World} {a : Option Addr} {c : Nat} {S : List SpanV} (h : SpansAt w a c S) (hn : New w w') : SpansAt w' a c S := by
  refine ⟨h.room, h.cap, ?_⟩
  rcases h.at' with h | ⟨b, o, e, hb, hc⟩
  · exact .inl h
  · exact .inr ⟨b, o, e, Nat.lt_of_lt_of_le hb hn.size, fun i f hf => ⟨hn.cellv (hc i f hf).1, hn.cellv (hc i f hf).2.1, hn.cellv (hc i f hf).2.2⟩⟩
theorem SpansAt.get {w : World} {a : Option Addr} {c : Nat} {S : List SpanV} (h : SpansAt w a c S) (hp : 0 < S.length) : ∃ b o, a = some ⟨b, o, none⟩ ∧ b < w.heap.size ∧ ∀ (i : Nat) (hi : i < S.length), w.cell? ⟨b, o + i * 3, none⟩ = some (.int .i64 S[i].file) ∧ w.cell? ⟨b, o + i * 3 + 1, none⟩ = some (.int .i64 S[i].frm) ∧ w.cell? ⟨b, o + i * 3 + 2, none⟩ = some (.int .i64 S[i].cnt) := by
  rcases h.at' with h | ⟨b, o, e, hb, hc⟩
  · simp [h] at hp
  · exact ⟨b, o, e, hb, fun i hi => hc i _ (List.getElem?_eq_getElem hi)⟩
theorem SpansAt.nil (w : World) : SpansAt w none 0 [] := ⟨by simp, by simp [maxLen], .inl rfl⟩
theorem spanRow_at : ∀ (S : List SpanV) (i : Nat) (s : SpanV), S[i]? = some s → ∀ j, j < 3 → (spanRow S)[i * 3 + j]? = (spanCells s)[j]?
  | [], i, e, h, _, _ => by simp at h
  | x :: r, 0, e, h, j, hj => by
    simp at h
    subst h
    show (spanCells x ++ spanRow r)[0 * 3 + j]? = _
    rw [List.getElem?_append_left (by simp [spanCells]; omega)]
    simp
  | x :: r, i + 1, e, h, j, hj => by
    have := spanRow_at r i e (by simpa using h) j hj
    show (spanCells x ++ spanRow r)[(i + 1) * 3 + j]? = _
    rw [List.getElem?_append_right (by simp [spanCells]; omega), ← this]
    congr 1
    simp [spanCells]
    omega
theorem OwnS.spans {w : World} {base : Nat} {v : Value} {S : List SpanV} (h : OwnS w base v S) : ∃ a c, v = .slice a S.length c ∧ SpansAt w a c S := by
  have hrow := h
  rcases h.2 with ⟨rfl, hn⟩ | ⟨g, cap, cur, rfl, hbg, hg, hnc, hcm, hcs, htake⟩
  · have : S = [] := List.eq_nil_of_length_eq_zero hn
    subst this
    exact ⟨none, 0, rfl, SpansAt.nil w⟩
  · refine ⟨some ⟨g, 0, none⟩, cap, rfl, by simpa using hnc, hcm, .inr ⟨g, 0, rfl, (Array.getElem?_eq_some_iff.1 hg).1, fun i s hs => ?_⟩⟩
    have hcell : ∀ j u, j < 3 → (spanCells s)[j]? = some u → w.cell? ⟨g, 0 + i * 3 + j, none⟩ = some u := by
      intro j u hj hu
      have h1 := World.ownsRow.cells (g := g) hrow rfl (i * 3 + j) u (by rw [spanRow_at S i s hs j hj]; exact hu)
      rw [add_none] at h1
      simpa [Nat.add_assoc] using h1
    exact ⟨by simpa using hcell 0 _ (by omega) rfl, by simpa using hcell 1 _ (by omega) rfl, by simpa using hcell 2 _ (by omega) rfl⟩

/-- Spans: the error, and what comes. -/
def spansErr (l : List FileV) (piece : Int) (new : Bool) (i : Int) : Int := if wayErr l piece = 0 then (if i < 0 ∨ piecesOf l piece new ≤ i then 7 else 0) else wayErr l piece
def spansRes (l : List FileV) (piece : Int) (new : Bool) (i : Int) : List SpanV := if spansErr l piece new i = 0 then spansOf l piece new i else []

set_option maxRecDepth 100000 in
set_option maxHeartbeats 2000000 in
theorem Spans_bad (a : Option Addr) (c : Nat) (l : List FileV) (piece i : Int) (new : Bool) (w : World) (h : FilesAt w a c l) (ht : Tab w) (h0 : -9223372036854775808 ≤ piece) (h1 : piece ≤ 9223372036854775807) (hb : wayErr l piece ≠ 0) :
    Calls Tryz.prog 14 #[.slice a l.length c, .int .i64 piece, .bool new, .int .i64 i] w fun e w' => e = .returned (.tuple #[.slice none 0 0, .int .i64 (wayErr l piece)]) ∧ New w w' := by
  have HWY := hid (ways_bad a c l piece new w h ht h0 h1 hb)
  have h3 : ((wayErr l piece) == 0) = false := by simpa using hb
  have h4 : ((wayErr l piece) != 0) = true := by simpa using hb
  clear h ht hb
  go_enter Tryz.func14, Tryz.ntmps14
  go_wp2_with (first | (go_at_call 31; refine HWY.out.mono ?_; rintro e w1 ⟨rfl, h1⟩; have H1 := hid h1; clear h1))
  go_ret2
  exact ⟨rfl, H1.out⟩
set_option maxRecDepth 100000 in
set_option maxHeartbeats 2000000 in
theorem Spans_out (a : Option Addr) (c : Nat) (l : List FileV) (piece i : Int) (new : Bool) (w : World) (h : FilesAt w a c l) (ht : Tab w) (h0 : -9223372036854775808 ≤ piece) (h1 : piece ≤ 9223372036854775807) (hb : wayErr l piece = 0) (hi : i < 0 ∨ piecesOf l piece new ≤ i) :
    Calls Tryz.prog 14 #[.slice a l.length c, .int .i64 piece, .bool new, .int .i64 i] w fun e w' => e = .returned (.tuple #[.slice none 0 0, .int .i64 7]) ∧ New w w' := by
  obtain ⟨hv, hp⟩ := way_ok hb
  obtain ⟨v1, v2, v3, v4⟩ := valid_facts hv
  obtain ⟨p1, p2⟩ := piece_range hp
  have v5 := each_len v3
  have v6 := (sum_mono l v3 0)
  have HWY := hid (ways_ok a c l piece new w h ht h0 h1 hb)
  have hm1 := method_apart
  have hm2 := method_row
  have HAP := hid (fun w' (n : New w w') => apart_pieces a c l piece w' (h.new n) v2 (fun f hf => ⟨v3 f hf, by have := v5 f hf; omega⟩) p1 p2)
  have HRP := hid (fun w' (n : New w w') => row_pieces a c l piece w' (h.new n) v3 (by omega) v4 p1 p2)
  clear h ht hv hp hb v1 v2 v3 v4 v5 v6
  cases new with
  | true =>
    have hpc : piecesOf l piece true = countsOf l piece := rfl
    rw [hpc] at hi
    obtain ⟨pn, hpn⟩ : ∃ pn, pn = countsOf l piece := ⟨_, rfl⟩
    rw [← hpn] at hi HAP
    clear hpc hpn HRP
    by_cases hi0 : i < 0
    · clear hi
      go_enter Tryz.func14, Tryz.ntmps14
      go_wp2_with (first | (go_at_call 31; refine HWY.out.mono ?_; simp only [wayV, if_true]; rintro e w1 ⟨rfl, h1⟩; have H1 := hid h1; clear h1) | (go_at_call 168; refine (HAP.out _ H1.out).mono ?_; rintro e w2 ⟨rfl, h2⟩; have H2 := hid (H1.out.trans h2); clear h2))
      all_goals go_ret2
      all_goals first | exact ⟨rfl, H1.out⟩ | exact ⟨rfl, H2.out⟩
    · have hi : pn ≤ i := by omega
      go_enter Tryz.func14, Tryz.ntmps14
      go_wp2_with (first | (go_at_call 31; refine HWY.out.mono ?_; simp only [wayV, if_true]; rintro e w1 ⟨rfl, h1⟩; have H1 := hid h1; clear h1) | (go_at_call 168; refine (HAP.out _ H1.out).mono ?_; rintro e w2 ⟨rfl, h2⟩; have H2 := hid (H1.out.trans h2); clear h2))
      all_goals go_ret2
      all_goals first | exact ⟨rfl, H1.out⟩ | exact ⟨rfl, H2.out⟩
  | false =>
    have hpc : piecesOf l piece false = (sumOf l + piece - 1) / piece := rfl
    rw [hpc] at hi
    obtain ⟨pn, hpn⟩ : ∃ pn, pn = (sumOf l + piece - 1) / piece := ⟨_, rfl⟩
    rw [← hpn] at hi HRP
    clear hpc hpn HAP
    by_cases hi0 : i < 0
    · clear hi
      go_enter Tryz.func14, Tryz.ntmps14
      go_wp2_with (first | (go_at_call 31; refine HWY.out.mono ?_; simp only [wayV, if_true]; rintro e w1 ⟨rfl, h1⟩; have H1 := hid h1; clear h1) | (go_at_call 174; refine (HRP.out _ H1.out).mono ?_; rintro e w2 ⟨rfl, h2⟩; have H2 := hid (H1.out.trans h2); clear h2))
      all_goals go_ret2
      all_goals first | exact ⟨rfl, H1.out⟩ | exact ⟨rfl, H2.out⟩
    · have hi : pn ≤ i := by omega
      go_enter Tryz.func14, Tryz.ntmps14
      go_wp2_with (first | (go_at_call 31; refine HWY.out.mono ?_; simp only [wayV]; rintro e w1 ⟨rfl, h1⟩; have H1 := hid h1; clear h1) | (go_at_call 174; refine (HRP.out _ H1.out).mono ?_; rintro e w2 ⟨rfl, h2⟩; have H2 := hid (H1.out.trans h2); clear h2))
      all_goals go_ret2
      all_goals first | exact ⟨rfl, H1.out⟩ | exact ⟨rfl, H2.out⟩
/-- Spans, whatever is asked. -/
theorem Spans_any (a : Option Addr) (c : Nat) (l : List FileV) (piece i : Int) (new : Bool) (w : World) (h : FilesAt w a c l) (ht : Tab w) (h0 : -9223372036854775808 ≤ piece) (h1 : piece ≤ 9223372036854775807) :
    Calls Tryz.prog 14 #[.slice a l.length c, .int .i64 piece, .bool new, .int .i64 i] w fun e w' => ∃ a' c', e = .returned (.tuple #[.slice a' (spansRes l piece new i).length c', .int .i64 (spansErr l piece new i)]) ∧ SpansAt w' a' c' (spansRes l piece new i) ∧ New w w' := by
  by_cases hb : wayErr l piece = 0
  · by_cases hi : i < 0 ∨ piecesOf l piece new ≤ i
    · have e : spansErr l piece new i = 7 := by simp only [spansErr, hb, if_true, hi]
      have e2 : spansRes l piece new i = [] := by simp [spansRes, e]
      rw [e2, e]
      refine (Spans_out a c l piece i new w h ht h0 h1 hb hi).mono ?_
      rintro _ w' ⟨rfl, n⟩
      exact ⟨none, 0, rfl, SpansAt.nil _, n⟩
    · have e : spansErr l piece new i = 0 := by simp only [spansErr, hb, if_true, hi, if_false]
      have e2 : spansRes l piece new i = spansOf l piece new i := by simp [spansRes, e]
      rw [e2, e]
      refine (Spans_ok a c l piece i new w h ht h0 h1 hb (by omega) (by omega)).mono ?_
      rintro _ w' ⟨v, rfl, o, n⟩
      obtain ⟨a', c', rfl, hs⟩ := o.spans
      exact ⟨a', c', rfl, hs, n⟩
  · have e : spansErr l piece new i = wayErr l piece := by simp [spansErr, hb]
    have e2 : spansRes l piece new i = [] := by simp [spansRes, e, hb]
    rw [e2, e]
    refine (Spans_bad a c l piece i new w h ht h0 h1 hb).mono ?_
    rintro _ w' ⟨rfl, n⟩
    exact ⟨none, 0, rfl, SpansAt.nil _, n⟩
end Go.Proofs.YtnccfikimmolgaaGreatDoor
