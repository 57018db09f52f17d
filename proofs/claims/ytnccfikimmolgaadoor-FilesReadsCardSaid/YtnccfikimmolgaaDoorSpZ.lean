/-
  Size of package files; bounds of spans; the law's comparison of spans; Small. Conditions: as they stand.
-/
import Derived.Test.YtnccfikimmolgaaDoorSpR
namespace Go.Proofs.YtnccfikimmolgaaDoor
set_option linter.unusedSimpArgs false
set_option linter.unusedVariables false
open Go.RowKit Go.Shelf

def cntOf (S : List SpanV) : Int := (S.map (·.cnt)).sum
theorem cnt_next {S : List SpanV} {k : Nat} (h : k < S.length) : cntOf (S.take (k + 1)) = cntOf (S.take k) + S[k].cnt := by
  unfold cntOf
  rw [List.take_add_one, List.getElem?_eq_getElem h]
  simp only [Option.toList, List.map_append, List.map_cons, List.map_nil, List.sum_append, List.sum_cons, List.sum_nil]
  omega
theorem cnt_nonneg {S : List SpanV} (h : ∀ s ∈ S, 0 ≤ s.cnt) : 0 ≤ cntOf S := by
  induction S with
  | nil => simp [cntOf]
  | cons s r ih =>
    have h1 := ih (fun t ht => h t (.tail _ ht))
    have h2 := h s (.head _)
    simp only [cntOf, List.map_cons, List.sum_cons] at *
    omega
theorem cnt_app (S T : List SpanV) : cntOf (S ++ T) = cntOf S + cntOf T := by simp [cntOf]
theorem cnt_take {S : List SpanV} (h : ∀ s ∈ S, 0 ≤ s.cnt) (k : Nat) : 0 ≤ cntOf (S.take k) ∧ cntOf (S.take k) ≤ cntOf S := by
  have h1 := cnt_nonneg (S := S.take k) (fun s hs => h s (List.mem_of_mem_take hs))
  have h2 := cnt_nonneg (S := S.drop k) (fun s hs => h s (List.mem_of_mem_drop hs))
  have h3 := cnt_app (S.take k) (S.drop k)
  rw [List.take_append_drop] at h3
  omega
/-- The bytes of a piece's spans, the old way. -/
theorem rowGo_cnt (lo hi : Int) : ∀ (l : List FileV) (b : Int) (k : Nat), (∀ f ∈ l, 0 ≤ f.len) → (∀ s ∈ rowGo lo hi b k l, 1 ≤ s.cnt) ∧ cntOf (rowGo lo hi b k l) = max 0 (min hi (b + sumOf l) - max lo b)
  | [], b, k, _ => by simp [rowGo, cntOf, sumOf]; omega
  | f :: l, b, k, h => by
    have hf := h f (.head _)
    obtain ⟨h1, h2⟩ := rowGo_cnt lo hi l (b + f.len) (k + 1) (fun g hg => h g (.tail _ hg))
    have hs := (sum_mono l (fun g hg => h g (.tail _ hg)) 0).2
    simp only [List.take_zero] at hs
    have e : sumOf (f :: l) = f.len + sumOf l := by simp [sumOf]
    have e0 : sumOf ([] : List FileV) = 0 := by simp [sumOf]
    rw [rowGo, cnt_app, h2, e]
    refine ⟨fun s hs => ?_, ?_⟩
    · rcases List.mem_append.1 hs with hs | hs
      · split at hs
        · simp at hs
          subst hs
          simp only
          omega
        · simp at hs
      · exact h1 s hs
    · split
      · simp [cntOf]
        omega
      · simp [cntOf]
        omega
theorem apGo_cnt {piece : Int} (hp : 0 < piece) : ∀ (l : List FileV) (i : Int) (k : Nat), 0 ≤ i → (∀ f ∈ l, 0 ≤ f.len) → (∀ s ∈ apGo piece i k l, 1 ≤ s.cnt) ∧ cntOf (apGo piece i k l) ≤ sumOf l ∧ cntOf (apGo piece i k l) ≤ piece ∧ (i < countsOf l piece → 1 ≤ cntOf (apGo piece i k l))
  | [], i, k, h0, _ => by simp [apGo, cntOf, sumOf, countsOf]; omega
  | f :: l, i, k, h0, h => by
    have hf := h f (.head _)
    have e : sumOf (f :: l) = f.len + sumOf l := by simp [sumOf]
    have ec : countsOf (f :: l) piece = countOf f piece + countsOf l piece := by simp [countsOf]
    have hs := (sum_mono l (fun g hg => h g (.tail _ hg)) 0).2
    have e0 : sumOf ([] : List FileV) = 0 := by simp [sumOf]
    simp only [List.take_zero] at hs
    rw [apGo]
    split
    · next hlt =>
      have hip : i * piece < f.len := by
        unfold countOf at hlt
        split at hlt
        · have h1 : i + 1 ≤ (f.len + piece - 1) / piece := by omega
          have h2 := (Int.le_ediv_iff_mul_le hp).1 h1
          rw [Int.add_mul] at h2
          omega
        · omega
      have hi0 := Int.mul_nonneg h0 (show 0 ≤ piece by omega)
      refine ⟨fun s hs => ?_, ?_, ?_, fun _ => ?_⟩
      · simp at hs
        subst hs
        simp only
        omega
      · simp [cntOf]; omega
      · simp [cntOf]; omega
      · simp [cntOf]; omega
    · next hge =>
      have h0' := count_len hf hp
      obtain ⟨h1, h2, h3, h4⟩ := apGo_cnt hp l (i - countOf f piece) (k + 1) (by omega) (fun g hg => h g (.tail _ hg))
      exact ⟨h1, by omega, h3, fun hi => h4 (by omega)⟩
theorem res_bounds {l : List FileV} {piece i : Int} {new : Bool} : (∀ s ∈ spansRes l piece new i, 0 ≤ s.cnt) ∧ cntOf (spansRes l piece new i) ≤ 65536 := by
  unfold spansRes
  split
  · next h =>
    unfold spansErr at h
    split at h
    · next hb =>
      split at h
      · cases h
      · next hi =>
        obtain ⟨hv, hp⟩ := way_ok hb
        obtain ⟨v1, v2, v3, v4⟩ := valid_facts hv
        obtain ⟨p1, p2⟩ := piece_range hp
        have hs := (sum_mono l v3 0).2
        have e0 : sumOf ([] : List FileV) = 0 := by simp [sumOf]
        simp only [List.take_zero] at hs
        unfold spansOf
        cases new with
        | true =>
          obtain ⟨h1, h2, -⟩ := apGo_cnt (piece := piece) (by omega) l i 0 (by omega) v3
          exact ⟨fun s hs => by have := h1 s hs; omega, by show cntOf (apGo piece i 0 l) ≤ _; omega⟩
        | false =>
          obtain ⟨h1, h2⟩ := rowGo_cnt (i * piece) ((i + 1) * piece) l 0 0 v3
          have : (i + 1) * piece = i * piece + piece := by rw [Int.add_mul, Int.one_mul]
          exact ⟨fun s hs => by have := h1 s hs; omega, by show cntOf (rowGo _ _ 0 0 l) ≤ _; omega⟩
    · next hb => exact absurd h hb
  · simp [cntOf]

theorem ret_pair {x y e : Int} (h : x = y) : Ending.returned (.tuple #[.int .i64 x, .int .i64 e]) = .returned (.tuple #[.int .i64 y, .int .i64 e]) := by rw [h]
set_option maxRecDepth 100000 in
set_option maxHeartbeats 2000000 in
theorem Size_any (a : Option Addr) (c : Nat) (l : List FileV) (piece i : Int) (new : Bool) (w : World) (h : FilesAt w a c l) (ht : Tab w) (h0 : -9223372036854775808 ≤ piece) (h1 : piece ≤ 9223372036854775807) :
    Calls Tryd.prog 31 #[.slice a l.length c, .int .i64 piece, .bool new, .int .i64 i] w fun e w' => e = .returned (.tuple #[.int .i64 (cntOf (spansRes l piece new i)), .int .i64 (spansErr l piece new i)]) ∧ New w w' := by
  have HSP := hid (Spans_any a c l piece i new w h ht h0 h1)
  obtain ⟨hn0, hs1⟩ := res_bounds (l := l) (piece := piece) (new := new) (i := i)
  have HB := hid (fun k => cnt_take hn0 k)
  obtain ⟨S, hS⟩ : ∃ S, S = spansRes l piece new i := ⟨_, rfl⟩
  obtain ⟨E, hE⟩ : ∃ E, E = spansErr l piece new i := ⟨_, rfl⟩
  rw [← hS] at HB hs1 HSP ⊢
  rw [← hE] at HSP ⊢
  clear hS hE hn0 h ht
  go_enter Tryd.func31, Tryd.ntmps31
  go_wp2_with fail
  refine HSP.out.mono ?_
  rintro e w1 ⟨a', c', rfl, hs, n1⟩
  have N1 := hid n1
  clear n1
  have hr := hs.room; have hc := hs.cap
  unfold maxLen at hc
  by_cases hz : 0 < S.length
  · obtain ⟨b1, o1, rfl, hb1, hc1⟩ := hs.get hz
    have HC1 := hid hc1
    clear hs hc1
    go_wp2
    go_loopw [25, 12] (fun k n wr => ∃ (j : Nat) (x : Int), k = .int .i64 j ∧ n = .int .i64 x ∧ x = cntOf (S.take j) ∧ j ≤ S.length ∧ New w1 wr) (fun k _ _ => S.length - (intOf k).toNat)
    case atStart => exact ⟨0, 0, rfl, rfl, rfl, by omega, Mod.refl _ _⟩
    case round =>
      obtain ⟨j, x, rfl, rfl, hx, hj, hn⟩ := hrel
      have HN := hid hn
      have HX := hid hx
      have hb0 := HB.out j
      rw [← hx] at hb0
      obtain ⟨x0, x1⟩ := hb0
      clear hx
      by_cases hlt : j < S.length
      · obtain ⟨g0, g1, g2⟩ := HC1.out j hlt
        have g0 := hn.cellv g0; have g1 := hn.cellv g1; have g2 := hn.cellv g2
        clear hn
        have hb2 := HB.out (j + 1)
        have hnx := cnt_next hlt
        rw [← HX.out] at hnx
        obtain ⟨s, hs⟩ : ∃ s, s = S[j] := ⟨_, rfl⟩
        rw [← hs] at g0 g1 g2 hnx
        clear hs
        rw [hnx] at hb2
        have HNX := hid hnx
        obtain ⟨y0, y1⟩ := hb2
        have y1' : x + s.cnt ≤ 65536 := by omega
        clear hnx y1
        go_wp2
        go_roundw
        case rel => exact ⟨j + 1, x + s.cnt, by simp, rfl, HNX.out.symm, by omega, HN.out.alloc _⟩
        case measure => simp [intOf]; omega
      · have hk : S.take j = S := List.take_of_length_le (by omega)
        rw [hk] at HX
        clear hk hn
        go_wp2
        go_ret2
        exact ⟨ret_pair HX.out, N1.out.trans HN.out⟩
  · obtain rfl : S = [] := List.eq_nil_of_length_eq_zero (by omega)
    clear hs
    go_wp2
    refine wp_loop_rounds 1 ?_
    rw [rounds_succ]
    go_wp2
    go_ret2
    exact ⟨rfl, N1.out⟩
end Go.Proofs.YtnccfikimmolgaaDoor
