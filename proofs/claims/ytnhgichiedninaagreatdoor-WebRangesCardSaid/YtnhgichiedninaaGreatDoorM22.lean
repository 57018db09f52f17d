/-
  Several texts in one, in their build order. Spans as they lie; Spans and Size of package files, whatever is asked; the law's comparison of two lists of spans. Conditions: the list lies as told; the library's table is as laid. Size of package files; bounds of spans; the law's comparison of spans; Small. Conditions: as they stand.
-/
import Derived.Test.YtnhgichiedninaaGreatDoorM21
namespace Go.Proofs.YtnhgichiedninaaGreatDoor
set_option linter.unusedSimpArgs false
set_option linter.unusedVariables false
open Go.RowKit Go.Shelf

/-- The slice of length S.length and capacity c at a holds the spans S. -/
structure SpansAt (w : World) (a : Option Addr) (c : Nat) (S : List SpanV) : Prop where
  room : S.length ≤ c
  cap : c ≤ maxLen
  at' : S = [] ∨ ∃ b o, a = some ⟨b, o, none⟩ ∧ b < w.heap.size ∧ ∀ (i : Nat) (s : SpanV), S[i]? = some s → w.cell? ⟨b, o + i * 3, none⟩ = some (.int .i64 s.file) ∧ w.cell? ⟨b, o + i * 3 + 1, none⟩ = some (.int .i64 s.frm) ∧ w.cell? ⟨b, o + i * 3 + 2, none⟩ = some (.int .i64 s.cnt)
theorem SpansAt.new {w w' : World} {a : Option Addr} {c : Nat} {S : List SpanV} (h : SpansAt w a c S) (hn : New w w') : SpansAt w' a c S := by
  refine ⟨h.room, h.cap, ?_⟩
  rcases h.at' with h | ⟨b, o, e, hb, hc⟩
  · exact .inl h
  · exact .inr ⟨b, o, e, Nat.lt_of_lt_of_le hb hn.size, fun i f hf => ⟨hn.cellv (hc i f hf).1, hn.cellv (hc i f hf).2.1, hn.cellv (hc i f hf).2.2⟩⟩
theorem SpansAt.get {w : World} {a : Option Addr} {c : Nat} {S : List SpanV} (h : SpansAt w a c S) (hp : 0 < S.length) : ∃ b o, a = some ⟨b, o, none⟩ ∧ b < w.heap.size ∧ ∀ (i : Nat) (hi : i < S.length), w.cell? ⟨b, o + i * 3, none⟩ = some (.int .i64 S[i].file) ∧ w.cell? ⟨b, o + i * 3 + 1, none⟩ = some (.int .i64 S[i].frm) ∧ w.cell? ⟨b, o + i * 3 + 2, none⟩ = some (.int .i64 S[i].cnt) := by
  rcases h.at' with h | ⟨b, o, e, hb, hc⟩
  · simp [h] at hp
  · exact ⟨b, o, e, hb, fun i hi => hc i _ (List.getElem?_eq_getElem hi)⟩
theorem SpansAt.nil (w : World) : SpansAt w none 0 [] := ⟨by simp, by simp [maxLen], .inl rfl⟩
theorem spanRow_at : ∀ (S : List SpanV) (i : Nat) (s : SpanV), S[i]? = some s → ∀ j, j < 3 → (spanRow S)[i * 3 + j]? = (spanCells s)[j]?
  | [], i, e, h, _, _ => by simp at h
  | x :: r, 0, e, h, j, hj => by
    simp at h
    subst h
    show (spanCells x ++ spanRow r)[0 * 3 + j]? = _
    rw [List.getElem?_append_left (by simp [spanCells]; omega)]
    simp
  | x :: r, i + 1, e, h, j, hj => by
    have := spanRow_at r i e (by simpa using h) j hj
    show (spanCells x ++ spanRow r)[(i + 1) * 3 + j]? = _
    rw [List.getElem?_append_right (by simp [spanCells]; omega), ← this]
    congr 1
    simp [spanCells]
    omega
theorem OwnS.spans {w : World} {base : Nat} {v : Value} {S : List SpanV} (h : OwnS w base v S) : ∃ a c, v = .slice a S.length c ∧ SpansAt w a c S := by
  have hrow := h
  rcases h.2 with ⟨rfl, hn⟩ | ⟨g, cap, cur, rfl, hbg, hg, hnc, hcm, hcs, htake⟩
  · have : S = [] := List.eq_nil_of_length_eq_zero hn
    subst this
    exact ⟨none, 0, rfl, SpansAt.nil w⟩
  · refine ⟨some ⟨g, 0, none⟩, cap, rfl, by simpa using hnc, hcm, .inr ⟨g, 0, rfl, (Array.getElem?_eq_some_iff.1 hg).1, fun i s hs => ?_⟩⟩
    have hcell : ∀ j u, j < 3 → (spanCells s)[j]? = some u → w.cell? ⟨g, 0 + i * 3 + j, none⟩ = some u := by
      intro j u hj hu
      have h1 := World.ownsRow.cells (g := g) hrow rfl (i * 3 + j) u (by rw [spanRow_at S i s hs j hj]; exact hu)
      rw [add_none] at h1
      simpa [Nat.add_assoc] using h1
    exact ⟨by simpa using hcell 0 _ (by omega) rfl, by simpa using hcell 1 _ (by omega) rfl, by simpa using hcell 2 _ (by omega) rfl⟩

/-- Spans: the error, and what comes. -/
def spansErr (l : List FileV) (piece : Int) (new : Bool) (i : Int) : Int := if wayErr l piece = 0 then (if i < 0 ∨ piecesOf l piece new ≤ i then 7 else 0) else wayErr l piece
def spansRes (l : List FileV) (piece : Int) (new : Bool) (i : Int) : List SpanV := if spansErr l piece new i = 0 then spansOf l piece new i else []

set_option maxRecDepth 100000 in
set_option maxHeartbeats 2000000 in
theorem Spans_bad (a : Option Addr) (c : Nat) (l : List FileV) (piece i : Int) (new : Bool) (w : World) (h : FilesAt w a c l) (ht : Tab w) (h0 : -9223372036854775808 ≤ piece) (h1 : piece ≤ 9223372036854775807) (hb : wayErr l piece ≠ 0) :
    Calls Tryz.prog 96 #[.slice a l.length c, .int .i64 piece, .bool new, .int .i64 i] w fun e w' => e = .returned (.tuple #[.slice none 0 0, .int .i64 (wayErr l piece)]) ∧ New w w' := by
  have HWY := hid (ways_bad a c l piece new w h ht h0 h1 hb)
  have h3 : ((wayErr l piece) == 0) = false := by simpa using hb
  have h4 : ((wayErr l piece) != 0) = true := by simpa using hb
  clear h ht hb
  go_enter Tryz.func96, Tryz.ntmps96
  go_wp2_with (first | (go_at_call 128; refine HWY.out.mono ?_; rintro e w1 ⟨rfl, h1⟩; have H1 := hid h1; clear h1))
  go_ret2
  exact ⟨rfl, H1.out⟩
set_option maxRecDepth 100000 in
set_option maxHeartbeats 2000000 in
theorem Spans_out (a : Option Addr) (c : Nat) (l : List FileV) (piece i : Int) (new : Bool) (w : World) (h : FilesAt w a c l) (ht : Tab w) (h0 : -9223372036854775808 ≤ piece) (h1 : piece ≤ 9223372036854775807) (hb : wayErr l piece = 0) (hi : i < 0 ∨ piecesOf l piece new ≤ i) :
    Calls Tryz.prog 96 #[.slice a l.length c, .int .i64 piece, .bool new, .int .i64 i] w fun e w' => e = .returned (.tuple #[.slice none 0 0, .int .i64 7]) ∧ New w w' := by
  obtain ⟨hv, hp⟩ := way_ok hb
  obtain ⟨v1, v2, v3, v4⟩ := valid_facts hv
  obtain ⟨p1, p2⟩ := piece_range hp
  have v5 := each_len v3
  have v6 := (sum_mono l v3 0)
  have HWY := hid (ways_ok a c l piece new w h ht h0 h1 hb)
  have hm1 := method_apart
  have hm2 := method_row
  have HAP := hid (fun w' (n : New w w') => apart_pieces a c l piece w' (h.new n) v2 (fun f hf => ⟨v3 f hf, by have := v5 f hf; omega⟩) p1 p2)
  have HRP := hid (fun w' (n : New w w') => row_pieces a c l piece w' (h.new n) v3 (by omega) v4 p1 p2)
  clear h ht hv hp hb v1 v2 v3 v4 v5 v6
  cases new with
  | true =>
    have hpc : piecesOf l piece true = countsOf l piece := rfl
    rw [hpc] at hi
    obtain ⟨pn, hpn⟩ : ∃ pn, pn = countsOf l piece := ⟨_, rfl⟩
    rw [← hpn] at hi HAP
    clear hpc hpn HRP
    by_cases hi0 : i < 0
    · clear hi
      go_enter Tryz.func96, Tryz.ntmps96
      go_wp2_with (first | (go_at_call 128; refine HWY.out.mono ?_; simp only [wayV, if_true]; rintro e w1 ⟨rfl, h1⟩; have H1 := hid h1; clear h1) | (go_at_call 214; refine (HAP.out _ H1.out).mono ?_; rintro e w2 ⟨rfl, h2⟩; have H2 := hid (H1.out.trans h2); clear h2))
      all_goals go_ret2
      all_goals first | exact ⟨rfl, H1.out⟩ | exact ⟨rfl, H2.out⟩
    · have hi : pn ≤ i := by omega
      go_enter Tryz.func96, Tryz.ntmps96
      go_wp2_with (first | (go_at_call 128; refine HWY.out.mono ?_; simp only [wayV, if_true]; rintro e w1 ⟨rfl, h1⟩; have H1 := hid h1; clear h1) | (go_at_call 214; refine (HAP.out _ H1.out).mono ?_; rintro e w2 ⟨rfl, h2⟩; have H2 := hid (H1.out.trans h2); clear h2))
      all_goals go_ret2
      all_goals first | exact ⟨rfl, H1.out⟩ | exact ⟨rfl, H2.out⟩
  | false =>
    have hpc : piecesOf l piece false = (sumOf l + piece - 1) / piece := rfl
    rw [hpc] at hi
    obtain ⟨pn, hpn⟩ : ∃ pn, pn = (sumOf l + piece - 1) / piece := ⟨_, rfl⟩
    rw [← hpn] at hi HRP
    clear hpc hpn HAP
    by_cases hi0 : i < 0
    · clear hi
      go_enter Tryz.func96, Tryz.ntmps96
      go_wp2_with (first | (go_at_call 128; refine HWY.out.mono ?_; simp only [wayV, if_true]; rintro e w1 ⟨rfl, h1⟩; have H1 := hid h1; clear h1) | (go_at_call 220; refine (HRP.out _ H1.out).mono ?_; rintro e w2 ⟨rfl, h2⟩; have H2 := hid (H1.out.trans h2); clear h2))
      all_goals go_ret2
      all_goals first | exact ⟨rfl, H1.out⟩ | exact ⟨rfl, H2.out⟩
    · have hi : pn ≤ i := by omega
      go_enter Tryz.func96, Tryz.ntmps96
      go_wp2_with (first | (go_at_call 128; refine HWY.out.mono ?_; simp only [wayV]; rintro e w1 ⟨rfl, h1⟩; have H1 := hid h1; clear h1) | (go_at_call 220; refine (HRP.out _ H1.out).mono ?_; rintro e w2 ⟨rfl, h2⟩; have H2 := hid (H1.out.trans h2); clear h2))
      all_goals go_ret2
      all_goals first | exact ⟨rfl, H1.out⟩ | exact ⟨rfl, H2.out⟩
/-- Spans, whatever is asked. -/
theorem Spans_any (a : Option Addr) (c : Nat) (l : List FileV) (piece i : Int) (new : Bool) (w : World) (h : FilesAt w a c l) (ht : Tab w) (h0 : -9223372036854775808 ≤ piece) (h1 : piece ≤ 9223372036854775807) :
    Calls Tryz.prog 96 #[.slice a l.length c, .int .i64 piece, .bool new, .int .i64 i] w fun e w' => ∃ a' c', e = .returned (.tuple #[.slice a' (spansRes l piece new i).length c', .int .i64 (spansErr l piece new i)]) ∧ SpansAt w' a' c' (spansRes l piece new i) ∧ New w w' := by
  by_cases hb : wayErr l piece = 0
  · by_cases hi : i < 0 ∨ piecesOf l piece new ≤ i
    · have e : spansErr l piece new i = 7 := by simp only [spansErr, hb, if_true, hi]
      have e2 : spansRes l piece new i = [] := by simp [spansRes, e]
      rw [e2, e]
      refine (Spans_out a c l piece i new w h ht h0 h1 hb hi).mono ?_
      rintro _ w' ⟨rfl, n⟩
      exact ⟨none, 0, rfl, SpansAt.nil _, n⟩
    · have e : spansErr l piece new i = 0 := by simp only [spansErr, hb, if_true, hi, if_false]
      have e2 : spansRes l piece new i = spansOf l piece new i := by simp [spansRes, e]
      rw [e2, e]
      refine (Spans_ok a c l piece i new w h ht h0 h1 hb (by omega) (by omega)).mono ?_
      rintro _ w' ⟨v, rfl, o, n⟩
      obtain ⟨a', c', rfl, hs⟩ := o.spans
      exact ⟨a', c', rfl, hs, n⟩
  · have e : spansErr l piece new i = wayErr l piece := by simp [spansErr, hb]
    have e2 : spansRes l piece new i = [] := by simp [spansRes, e, hb]
    rw [e2, e]
    refine (Spans_bad a c l piece i new w h ht h0 h1 hb).mono ?_
    rintro _ w' ⟨rfl, n⟩
    exact ⟨none, 0, rfl, SpansAt.nil _, n⟩
end Go.Proofs.YtnhgichiedninaaGreatDoor

namespace Go.Proofs.YtnhgichiedninaaGreatDoor
set_option linter.unusedSimpArgs false
set_option linter.unusedVariables false
open Go.RowKit Go.Shelf

def cntOf (S : List SpanV) : Int := (S.map (·.cnt)).sum
theorem cnt_next {S : List SpanV} {k : Nat} (h : k < S.length) : cntOf (S.take (k + 1)) = cntOf (S.take k) + S[k].cnt := by
  unfold cntOf
  rw [List.take_add_one, List.getElem?_eq_getElem h]
  simp only [Option.toList, List.map_append, List.map_cons, List.map_nil, List.sum_append, List.sum_cons, List.sum_nil]
  omega
theorem cnt_nonneg {S : List SpanV} (h : ∀ s ∈ S, 0 ≤ s.cnt) : 0 ≤ cntOf S := by
  induction S with
  | nil => simp [cntOf]
  | cons s r ih =>
    have h1 := ih (fun t ht => h t (.tail _ ht))
    have h2 := h s (.head _)
    simp only [cntOf, List.map_cons, List.sum_cons] at *
    omega
theorem cnt_app (S T : List SpanV) : cntOf (S ++ T) = cntOf S + cntOf T := by simp [cntOf]
theorem cnt_take {S : List SpanV} (h : ∀ s ∈ S, 0 ≤ s.cnt) (k : Nat) : 0 ≤ cntOf (S.take k) ∧ cntOf (S.take k) ≤ cntOf S := by
  have h1 := cnt_nonneg (S := S.take k) (fun s hs => h s (List.mem_of_mem_take hs))
  have h2 := cnt_nonneg (S := S.drop k) (fun s hs => h s (List.mem_of_mem_drop hs))
  have h3 := cnt_app (S.take k) (S.drop k)
  rw [List.take_append_drop] at h3
  omega
/-- The bytes of a piece's spans, the old way. -/
theorem rowGo_cnt (lo hi : Int) : ∀ (l : List FileV) (b : Int) (k : Nat), (∀ f ∈ l, 0 ≤ f.len) → (∀ s ∈ rowGo lo hi b k l, 1 ≤ s.cnt) ∧ cntOf (rowGo lo hi b k l) = max 0 (min hi (b + sumOf l) - max lo b)
  | [], b, k, _ => by simp [rowGo, cntOf, sumOf]; omega
  | f :: l, b, k, h => by
    have hf := h f (.head _)
    obtain ⟨h1, h2⟩ := rowGo_cnt lo hi l (b + f.len) (k + 1) (fun g hg => h g (.tail _ hg))
    have hs := (sum_mono l (fun g hg => h g (.tail _ hg)) 0).2
    simp only [List.take_zero] at hs
    have e : sumOf (f :: l) = f.len + sumOf l := by simp [sumOf]
    have e0 : sumOf ([] : List FileV) = 0 := by simp [sumOf]
    rw [rowGo, cnt_app, h2, e]
    refine ⟨fun s hs => ?_, ?_⟩
    · rcases List.mem_append.1 hs with hs | hs
      · split at hs
        · simp at hs
          subst hs
          simp only
          omega
        · simp at hs
      · exact h1 s hs
    · split
      · simp [cntOf]
        omega
      · simp [cntOf]
        omega
theorem apGo_cnt {piece : Int} (hp : 0 < piece) : ∀ (l : List FileV) (i : Int) (k : Nat), 0 ≤ i → (∀ f ∈ l, 0 ≤ f.len) → (∀ s ∈ apGo piece i k l, 1 ≤ s.cnt) ∧ cntOf (apGo piece i k l) ≤ sumOf l ∧ cntOf (apGo piece i k l) ≤ piece ∧ (i < countsOf l piece → 1 ≤ cntOf (apGo piece i k l))
  | [], i, k, h0, _ => by simp [apGo, cntOf, sumOf, countsOf]; omega
  | f :: l, i, k, h0, h => by
    have hf := h f (.head _)
    have e : sumOf (f :: l) = f.len + sumOf l := by simp [sumOf]
    have ec : countsOf (f :: l) piece = countOf f piece + countsOf l piece := by simp [countsOf]
    have hs := (sum_mono l (fun g hg => h g (.tail _ hg)) 0).2
    have e0 : sumOf ([] : List FileV) = 0 := by simp [sumOf]
    simp only [List.take_zero] at hs
    rw [apGo]
    split
    · next hlt =>
      have hip : i * piece < f.len := by
        unfold countOf at hlt
        split at hlt
        · have h1 : i + 1 ≤ (f.len + piece - 1) / piece := by omega
          have h2 := (Int.le_ediv_iff_mul_le hp).1 h1
          rw [Int.add_mul] at h2
          omega
        · omega
      have hi0 := Int.mul_nonneg h0 (show 0 ≤ piece by omega)
      refine ⟨fun s hs => ?_, ?_, ?_, fun _ => ?_⟩
      · simp at hs
        subst hs
        simp only
        omega
      · simp [cntOf]; omega
      · simp [cntOf]; omega
      · simp [cntOf]; omega
    · next hge =>
      have h0' := count_len hf hp
      obtain ⟨h1, h2, h3, h4⟩ := apGo_cnt hp l (i - countOf f piece) (k + 1) (by omega) (fun g hg => h g (.tail _ hg))
      exact ⟨h1, by omega, h3, fun hi => h4 (by omega)⟩
theorem res_bounds {l : List FileV} {piece i : Int} {new : Bool} : (∀ s ∈ spansRes l piece new i, 0 ≤ s.cnt) ∧ cntOf (spansRes l piece new i) ≤ 65536 := by
  unfold spansRes
  split
  · next h =>
    unfold spansErr at h
    split at h
    · next hb =>
      split at h
      · cases h
      · next hi =>
        obtain ⟨hv, hp⟩ := way_ok hb
        obtain ⟨v1, v2, v3, v4⟩ := valid_facts hv
        obtain ⟨p1, p2⟩ := piece_range hp
        have hs := (sum_mono l v3 0).2
        have e0 : sumOf ([] : List FileV) = 0 := by simp [sumOf]
        simp only [List.take_zero] at hs
        unfold spansOf
        cases new with
        | true =>
          obtain ⟨h1, h2, -⟩ := apGo_cnt (piece := piece) (by omega) l i 0 (by omega) v3
          exact ⟨fun s hs => by have := h1 s hs; omega, by show cntOf (apGo piece i 0 l) ≤ _; omega⟩
        | false =>
          obtain ⟨h1, h2⟩ := rowGo_cnt (i * piece) ((i + 1) * piece) l 0 0 v3
          have : (i + 1) * piece = i * piece + piece := by rw [Int.add_mul, Int.one_mul]
          exact ⟨fun s hs => by have := h1 s hs; omega, by show cntOf (rowGo _ _ 0 0 l) ≤ _; omega⟩
    · next hb => exact absurd h hb
  · simp [cntOf]

theorem ret_pair {x y e : Int} (h : x = y) : Ending.returned (.tuple #[.int .i64 x, .int .i64 e]) = .returned (.tuple #[.int .i64 y, .int .i64 e]) := by rw [h]
end Go.Proofs.YtnhgichiedninaaGreatDoor
