/-
  In a padded list old and new pieces are as many, and each old piece has the new one's spans, and behind them only pads'. Plain Lean, no program. No condition.
-/
import Derived.Test.YtnccfikimmolgaaDoorSpZ
import Derived.Test.YtnccfikimmolgaaDoorAg
namespace Go.Proofs.YtnccfikimmolgaaDoor
set_option linter.unusedSimpArgs false
set_option linter.unusedVariables false

/-- How many pieces b bytes have. -/
def ceilP (b piece : Int) : Int := (b + piece - 1) / piece
theorem ceilP_eq {b piece q : Int} (hp : 0 < piece) (h1 : (q - 1) * piece < b) (h2 : b ≤ q * piece) : ceilP b piece = q := by
  unfold ceilP
  rw [Int.ediv_eq_iff_of_pos hp]
  rw [Int.sub_mul, Int.one_mul] at h1
  constructor <;> omega
theorem ceilP_bd (b : Int) {piece : Int} (hp : 0 < piece) : (ceilP b piece - 1) * piece < b ∧ b ≤ ceilP b piece * piece := by
  have h := (Int.ediv_eq_iff_of_pos (x := b + piece - 1) (y := ceilP b piece) hp).1 rfl
  rw [Int.sub_mul, Int.one_mul]
  omega
theorem ceilP_add {q len piece : Int} (hp : 0 < piece) : ceilP (q * piece + len) piece = q + ceilP len piece := by
  obtain ⟨h1, h2⟩ := ceilP_bd len hp
  refine ceilP_eq hp ?_ ?_
  · rw [show q + ceilP len piece - 1 = q + (ceilP len piece - 1) by omega, Int.add_mul]; omega
  · rw [Int.add_mul]; omega
theorem count_ceil {f : FileV} {piece : Int} (h : 0 < f.len) (hp : f.pad = false) : countOf f piece = ceilP f.len piece := by
  simp [countOf, hasN, h, hp, ceilP]
theorem count_none {f : FileV} {piece : Int} (h : ¬ 0 < f.len ∨ f.pad = true) : countOf f piece = 0 := by
  unfold countOf hasN
  rcases h with h | h <;> simp [h]
/-- The span's file is a pad of L, which begins at k. -/
def PadAt (L : List FileV) (k : Nat) (s : SpanV) : Prop := ∃ (j : Nat) (f : FileV), s.file = (k : Int) + j ∧ L[j]? = some f ∧ f.pad = true
theorem PadAt.next {L : List FileV} {k : Nat} {s : SpanV} {f : FileV} (h : PadAt L (k + 1) s) : PadAt (f :: L) k s := by
  obtain ⟨j, g, h1, h2, h3⟩ := h
  exact ⟨j + 1, g, by rw [h1]; omega, by simpa using h2, h3⟩
theorem lack_bd {row piece : Int} (hp : 0 < piece) (h : 0 < (-row) % piece) : row + (-row) % piece = ceilP row piece * piece := by
  have h1 := Int.emod_lt_of_pos (-row) hp
  have h2 := Int.mul_ediv_add_emod (-row) piece
  have e : row + (-row) % piece = -((-row) / piece) * piece := by
    rw [Int.neg_mul, Int.mul_comm ((-row) / piece)]
    omega
  rw [e]
  congr 1
  symm
  refine ceilP_eq hp ?_ ?_
  · rw [Int.sub_mul, Int.one_mul, ← e]; omega
  · rw [← e]; omega
theorem lack_zero {row piece : Int} (hp : 0 < piece) (h : ¬ 0 < (-row) % piece) : row = ceilP row piece * piece := by
  have h0 := Int.emod_nonneg (-row) (show piece ≠ 0 by omega)
  have h2 := Int.mul_ediv_add_emod (-row) piece
  have e : row = -((-row) / piece) * piece := by
    rw [Int.neg_mul, Int.mul_comm ((-row) / piece)]
    omega
  have : ceilP row piece = -((-row) / piece) := by
    refine ceilP_eq hp ?_ ?_
    · rw [Int.sub_mul, Int.one_mul, ← e]; omega
    · rw [← e]; exact Int.le_refl _
  rw [this]
  exact e
structure TwoL (piece b : Int) (k : Nat) (L : List FileV) : Prop where
  on : ∀ i : Int, ceilP b piece ≤ i → ∃ R, rowGo (i * piece) ((i + 1) * piece) b k L = apGo piece (i - ceilP b piece) k L ++ R ∧ ∀ s ∈ R, PadAt L k s
  off : ∀ i : Int, i < ceilP b piece → ∀ s ∈ rowGo (i * piece) ((i + 1) * piece) b k L, PadAt L k s
  many : ceilP (b + sumOf L) piece = ceilP b piece + countsOf L piece
theorem piece_mul_le {i j piece : Int} (hp : 0 < piece) (h : i ≤ j) : i * piece ≤ j * piece := Int.mul_le_mul_of_nonneg_right h (by omega)
/-- A file that holds nothing. -/
theorem TwoL.empty {piece b : Int} {k : Nat} {L : List FileV} {f : FileV} (hf : f.len = 0) (h : TwoL piece b (k + 1) L) : TwoL piece b k (f :: L) := by
  have hr : ∀ lo hi, rowGo lo hi b k (f :: L) = rowGo lo hi b (k + 1) L := by
    intro lo hi
    rw [rowGo, hf, Int.add_zero, if_neg (by omega)]
    rfl
  have hc : countOf f piece = 0 := count_none (.inl (by omega))
  refine ⟨fun i hi => ?_, fun i hi s hs => ?_, ?_⟩
  · obtain ⟨R, h1, h2⟩ := h.on i hi
    refine ⟨R, ?_, fun s hs => (h2 s hs).next⟩
    rw [hr, h1, apGo, hc, if_neg (by omega), Int.sub_zero]
  · rw [hr] at hs
    exact (h.off i hi s hs).next
  · have e1 : sumOf (f :: L) = f.len + sumOf L := by simp [sumOf]
    have e2 : countsOf (f :: L) piece = countOf f piece + countsOf L piece := by simp [countsOf]
    rw [e1, e2, hf, hc, Int.zero_add, Int.zero_add]
    exact h.many
/-- A file that begins with a piece. -/
theorem TwoL.file {piece q : Int} {k : Nat} {L : List FileV} {f : FileV} (hp : 0 < piece) (hl : 0 < f.len) (hn : f.pad = false) (hL : ∀ g ∈ L, 0 ≤ g.len) (h : TwoL piece (q * piece + f.len) (k + 1) L) : TwoL piece (q * piece) k (f :: L) := by
  have hq : ceilP (q * piece) piece = q := ceilP_eq hp (by rw [Int.sub_mul, Int.one_mul]; omega) (Int.le_refl _)
  have hc := count_ceil (piece := piece) hl hn
  have hq2 : ceilP (q * piece + f.len) piece = q + countOf f piece := by rw [hc]; exact ceilP_add hp
  obtain ⟨c1, c2⟩ := ceilP_bd f.len hp
  rw [← hc] at c1 c2
  refine ⟨fun i hi => ?_, fun i hi s hs => ?_, ?_⟩
  · rw [hq] at hi ⊢
    have hiq := piece_mul_le hp hi
    have ei : (i - q) * piece = i * piece - q * piece := Int.sub_mul ..
    have ei1 : (i + 1) * piece = i * piece + piece := by rw [Int.add_mul, Int.one_mul]
    by_cases hlt : i - q < countOf f piece
    · have hjl := piece_mul_le hp (show i - q ≤ countOf f piece - 1 by omega)
      rw [apGo, if_pos hlt, rowGo, if_pos (by omega)]
      refine ⟨rowGo (i * piece) ((i + 1) * piece) (q * piece + f.len) (k + 1) L, ?_, fun s hs => ?_⟩
      · congr 2
        simp only [SpanV.mk.injEq, true_and]
        omega
      · by_cases hi2 : i < ceilP (q * piece + f.len) piece
        · exact (h.off i hi2 s hs).next
        · omega
    · have hjl := piece_mul_le hp (show countOf f piece ≤ i - q by omega)
      obtain ⟨R, h1, h2⟩ := h.on i (by rw [hq2]; omega)
      refine ⟨R, ?_, fun s hs => (h2 s hs).next⟩
      rw [apGo, if_neg hlt, rowGo, if_neg (by omega), List.nil_append, h1, hq2]
      congr 2
      omega
  · rw [hq] at hi
    have hiq := piece_mul_le hp (show i + 1 ≤ q by omega)
    rw [rowGo_behind _ _ _ _ _ (by intro g hg; rcases List.mem_cons.1 hg with rfl | hg; omega; exact hL g hg) hiq] at hs
    simp at hs
  · have e1 : sumOf (f :: L) = f.len + sumOf L := by simp [sumOf]
    have e2 : countsOf (f :: L) piece = countOf f piece + countsOf L piece := by simp [countsOf]
    rw [e1, e2, ← Int.add_assoc, h.many, hq, hq2]
    omega
/-- A pad up to the next piece. -/
theorem TwoL.pad {piece b q : Int} {k : Nat} {L : List FileV} {f : FileV} (hp : 0 < piece) (hq : ceilP b piece = q) (hb : b + f.len = q * piece) (hl : 0 < f.len) (hn : f.pad = true) (hL : ∀ g ∈ L, 0 ≤ g.len) (h : TwoL piece (q * piece) (k + 1) L) : TwoL piece b k (f :: L) := by
  have hq2 : ceilP (q * piece) piece = q := ceilP_eq hp (by rw [Int.sub_mul, Int.one_mul]; omega) (Int.le_refl _)
  have hc : countOf f piece = 0 := count_none (.inr hn)
  refine ⟨fun i hi => ?_, fun i hi s hs => ?_, ?_⟩
  · rw [hq] at hi ⊢
    have hiq := piece_mul_le hp hi
    obtain ⟨R, h1, h2⟩ := h.on i (by rw [hq2]; exact hi)
    refine ⟨R, ?_, fun s hs => (h2 s hs).next⟩
    rw [apGo, hc, if_neg (by omega), Int.sub_zero, rowGo, if_neg (by omega), List.nil_append, hb, h1, hq2]
  · rw [hq] at hi
    have hiq := piece_mul_le hp (show i + 1 ≤ q by omega)
    rw [rowGo, hb] at hs
    rcases List.mem_append.1 hs with hs | hs
    · split at hs
      · simp at hs
        subst hs
        exact ⟨0, f, by simp, rfl, hn⟩
      · simp at hs
    · rw [rowGo_behind _ _ _ _ _ hL hiq] at hs
      simp at hs
  · have e1 : sumOf (f :: L) = f.len + sumOf L := by simp [sumOf]
    have e2 : countsOf (f :: L) piece = countOf f piece + countsOf L piece := by simp [countsOf]
    rw [e1, e2, ← Int.add_assoc, hb, h.many, hq, hq2, hc]
    omega
theorem padded_nonneg {piece : Int} (hp : 0 < piece) : ∀ (l : List FileV) (b : Int), (∀ f ∈ l, 0 ≤ f.len) → ∀ g ∈ padded piece b l, 0 ≤ g.len
  | [], b, _, g, hg => by simp [padded] at hg
  | f :: r, b, h, g, hg => by
    have hlk : 0 ≤ lackOf b piece := Int.emod_nonneg _ (by omega)
    rw [padded] at hg
    split at hg
    · rcases List.mem_cons.1 hg with rfl | hg
      · exact hlk
      · rcases List.mem_cons.1 hg with rfl | hg
        · exact h _ (.head _)
        · exact padded_nonneg hp r _ (fun x hx => h x (.tail _ hx)) g hg
    · rcases List.mem_cons.1 hg with rfl | hg
      · exact h _ (.head _)
      · exact padded_nonneg hp r _ (fun x hx => h x (.tail _ hx)) g hg
theorem padded_two {piece : Int} (hp : 0 < piece) : ∀ (l : List FileV) (b : Int) (k : Nat), (∀ f ∈ l, 0 ≤ f.len ∧ f.pad = false) → TwoL piece b k (padded piece b l)
  | [], b, k, _ => ⟨fun i _ => ⟨[], by simp [padded, rowGo, apGo], by simp⟩, fun i _ s hs => by simp [padded, rowGo] at hs, by simp [padded, sumOf, countsOf]⟩
  | f :: r, b, k, h => by
    obtain ⟨h0, hn⟩ := h f (.head _)
    have hr := fun g hg => h g (.tail _ hg)
    by_cases hl : 0 < f.len
    · by_cases hlk : 0 < (-b) % piece
      · have e := lack_bd hp hlk
        rw [padded_pos ⟨hl, hlk⟩]
        have ih := padded_two hp r (b + (-b) % piece + f.len) (k + 2) hr
        have hnn := padded_nonneg hp r (b + (-b) % piece + f.len) (fun g hg => (hr g hg).1)
        rw [e] at ih hnn ⊢
        refine TwoL.pad hp rfl e hlk rfl ?_ (TwoL.file hp hl hn hnn ih)
        intro g hg
        rcases List.mem_cons.1 hg with rfl | hg
        · exact h0
        · exact hnn g hg
      · have e := lack_zero hp hlk
        have e2 : padded piece b (f :: r) = f :: padded piece (b + f.len) r := by
          rw [padded, if_neg (by rintro ⟨-, q⟩; exact hlk q)]
        rw [e2]
        have ih := padded_two hp r (b + f.len) (k + 1) hr
        have hnn := padded_nonneg hp r (b + f.len) (fun g hg => (hr g hg).1)
        obtain ⟨q, hq⟩ : ∃ q, q = ceilP b piece := ⟨_, rfl⟩
        rw [← hq] at e
        subst e
        exact TwoL.file hp hl hn hnn ih
    · have e2 : padded piece b (f :: r) = f :: padded piece b r := by
        rw [padded, if_neg (by rintro ⟨q, -⟩; exact hl q), show b + f.len = b by omega]
      rw [e2]
      exact TwoL.empty (by omega) (padded_two hp r b (k + 1) hr)
/-- P5.3. -/
theorem two_ways {l : List FileV} {piece : Int} (hp : 0 < piece) (hf : ∀ f ∈ l, 0 ≤ f.len) : piecesOf (padOf l piece) piece false = piecesOf (padOf l piece) piece true ∧ ∀ i : Int, 0 ≤ i → ∃ R, spansOf (padOf l piece) piece false i = spansOf (padOf l piece) piece true i ++ R ∧ ∀ s ∈ R, PadAt (padOf l piece) 0 s := by
  have h := padded_two hp (bareL l) 0 0 (fun f hm => by
    simp only [bareL, List.mem_filter] at hm
    exact ⟨hf f hm.1, by simpa using hm.2⟩)
  have h0 : ceilP 0 piece = 0 := ceilP_eq hp (by omega) (by omega)
  refine ⟨?_, fun i hi => ?_⟩
  · have := h.many
    rw [h0, Int.zero_add, Int.zero_add] at this
    exact this
  · obtain ⟨R, h1, h2⟩ := h.on i (by omega)
    rw [h0, Int.sub_zero] at h1
    exact ⟨R, h1, h2⟩
end Go.Proofs.YtnccfikimmolgaaDoor
