/-
  Several texts in one, in their build order. What pieces hold, told as package files tells it (each piece by itself) and as the reference does (all pieces in one cut). The two are one. Plain Lean, no program. No condition.
-/
import Derived.Test.YtnhgichiedninaaGreatDoorM16
namespace Go.Proofs.YtnhgichiedninaaGreatDoor
set_option linter.unusedSimpArgs false
set_option linter.unusedVariables false

structure SpanV where
  file : Int
  frm : Int
  cnt : Int
  deriving DecidableEq

/-- A piece's spans, the old way: its bytes are those from 'lo' on, up to 'hi'. -/
def rowGo (lo hi : Int) : Int → Nat → List FileV → List SpanV
  | _, _, [] => []
  | b, k, f :: r => (if max lo b < min hi (b + f.len) then [⟨k, max lo b - b, min hi (b + f.len) - max lo b⟩] else []) ++ rowGo lo hi (b + f.len) (k + 1) r
/-- A piece's spans, the new way. -/
def apGo (piece : Int) : Int → Nat → List FileV → List SpanV
  | _, _, [] => []
  | i, k, f :: r => if i < countOf f piece then [⟨k, i * piece, min piece (f.len - i * piece)⟩] else apGo piece (i - countOf f piece) (k + 1) r
def spansOf (l : List FileV) (piece : Int) (new : Bool) (i : Int) : List SpanV := if new then apGo piece i 0 l else rowGo (i * piece) ((i + 1) * piece) 0 0 l

/-- The reference's cut of one file: 'at' bytes of it are cut, 'room' bytes of the last piece are free. -/
def addLast (out : List (List SpanV)) (s : SpanV) : List (List SpanV) := out.dropLast ++ [(out.getLast?.getD []) ++ [s]]
def cutFile (piece : Int) (k : Nat) (len : Int) : Nat → Int → Int → List (List SpanV) → Int × List (List SpanV)
  | 0, _, room, out => (room, out)
  | fuel + 1, at', room, out =>
    if at' < len then
      let out1 := if room = 0 then out ++ [[]] else out
      let room1 := if room = 0 then piece else room
      let n := min room1 (len - at')
      cutFile piece k len fuel (at' + n) (room1 - n) (addLast out1 ⟨k, at', n⟩)
    else (room, out)
def cutGo (piece : Int) (new : Bool) : Nat → Int → List (List SpanV) → List FileV → List (List SpanV)
  | _, _, out, [] => out
  | k, room, out, f :: r =>
    if new && f.pad then cutGo piece new (k + 1) 0 out r
    else
      let c := cutFile piece k f.len (f.len.toNat + 1) 0 (if new then 0 else room) out
      cutGo piece new (k + 1) c.1 c.2 r
def cutOf (l : List FileV) (piece : Int) (new : Bool) : List (List SpanV) := cutGo piece new 0 0 [] l

theorem rowGo_app (lo hi : Int) : ∀ (l r : List FileV) (b : Int) (k : Nat), rowGo lo hi b k (l ++ r) = rowGo lo hi b k l ++ rowGo lo hi (b + sumOf l) (k + l.length) r
  | [], r, b, k => by simp [rowGo, sumOf]
  | f :: l, r, b, k => by
    have := rowGo_app lo hi l r (b + f.len) (k + 1)
    simp only [List.cons_append, rowGo, this, List.append_assoc, sumOf, List.map_cons, List.sum_cons, List.length_cons]
    rw [show k + 1 + l.length = k + (l.length + 1) by omega, Int.add_assoc b f.len]
/-- Files that end ahead of both bounds are cut alike. -/
theorem rowGo_same (lo hi hi' : Int) : ∀ (l : List FileV) (b : Int) (k : Nat), (∀ f ∈ l, 0 ≤ f.len) → b + sumOf l ≤ hi → b + sumOf l ≤ hi' → rowGo lo hi b k l = rowGo lo hi' b k l
  | [], _, _, _, _, _ => rfl
  | f :: l, b, k, hp, h1, h2 => by
    have hs := (sum_mono l (fun g hg => hp g (.tail _ hg)) 0).2
    have hf := hp f (.head _)
    simp only [sumOf, List.map_cons, List.sum_cons, List.take_zero, List.map_nil, List.sum_nil] at h1 h2 hs
    have := rowGo_same lo hi hi' l (b + f.len) (k + 1) (fun g hg => hp g (.tail _ hg)) (by simp only [sumOf]; omega) (by simp only [sumOf]; omega)
    simp only [rowGo, this]
    rw [Int.min_eq_right (show b + f.len ≤ hi by omega), Int.min_eq_right (show b + f.len ≤ hi' by omega)]
/-- Files behind the bound have no span. -/
theorem rowGo_behind (lo hi : Int) : ∀ (l : List FileV) (b : Int) (k : Nat), (∀ f ∈ l, 0 ≤ f.len) → hi ≤ b → rowGo lo hi b k l = []
  | [], _, _, _, _ => rfl
  | f :: l, b, k, hp, h => by
    have hf := hp f (.head _)
    have := rowGo_behind lo hi l (b + f.len) (k + 1) (fun g hg => hp g (.tail _ hg)) (by omega)
    simp only [rowGo, this]
    rw [if_neg (by omega)]
    rfl
theorem rowGo_none (lo hi : Int) : ∀ (l : List FileV) (b : Int) (k : Nat), (∀ f ∈ l, 0 ≤ f.len) → hi ≤ lo → rowGo lo hi b k l = []
  | [], _, _, _, _ => rfl
  | f :: l, b, k, hp, h => by
    have hf := hp f (.head _)
    have := rowGo_none lo hi l (b + f.len) (k + 1) (fun g hg => hp g (.tail _ hg)) (by omega)
    simp only [rowGo, this]
    rw [if_neg (by omega)]
    rfl
/-- One step of the cut: n more bytes of the file behind 'pre', of which 'at' are cut. -/
theorem rowGo_step (pre post : List FileV) (f : FileV) (lo at' n : Int) (hp : ∀ g ∈ pre ++ f :: post, 0 ≤ g.len) (h0 : 0 ≤ at') (hn : 0 < n) (hlen : at' + n ≤ f.len) (hlo : lo ≤ sumOf pre + at') (hat : at' = 0 ∨ lo = sumOf pre + at') :
    rowGo lo (sumOf pre + at' + n) 0 0 (pre ++ f :: post) = rowGo lo (sumOf pre + at') 0 0 (pre ++ f :: post) ++ [⟨pre.length, at', n⟩] := by
  have hpre : ∀ g ∈ pre, 0 ≤ g.len := fun g hg => hp g (by simp [hg])
  have hpost : ∀ g ∈ post, 0 ≤ g.len := fun g hg => hp g (by simp [hg])
  rw [rowGo_app, rowGo_app, rowGo_same lo (sumOf pre + at' + n) (sumOf pre + at') pre 0 0 hpre (by omega) (by omega)]
  simp only [Int.zero_add, Nat.zero_add, rowGo]
  rw [rowGo_behind lo (sumOf pre + at' + n) post _ _ hpost (by omega), rowGo_behind lo (sumOf pre + at') post _ _ hpost (by omega)]
  have hm : max lo (sumOf pre) = sumOf pre + at' := by omega
  rw [hm, if_pos (by omega), if_neg (by omega)]
  simp only [List.append_nil, List.append_assoc, List.nil_append]
  congr 2
  simp only [SpanV.mk.injEq, true_and]
  omega

/-! ### the old way -/
def upTo (l : List FileV) (piece t : Int) (i : Nat) : List SpanV := rowGo ((i : Int) * piece) (min (((i : Int) + 1) * piece) t) 0 0 l
structure CutInv (l : List FileV) (piece : Int) (t room : Int) (m : Nat) (out : List (List SpanV)) : Prop where
  out : out = (List.range m).map (upTo l piece t)
  eqm : (m : Int) * piece = t + room
  r0 : 0 ≤ room
  r1 : room < piece
theorem addLast_range (g : Nat → List SpanV) (m : Nat) (s : SpanV) : addLast ((List.range (m + 1)).map g) s = (List.range m).map g ++ [g m ++ [s]] := by
  simp [addLast, List.range_succ]
theorem mul_next (m : Nat) (piece : Int) : (((m + 1 : Nat) : Int)) * piece = (m : Int) * piece + piece := by
  rw [Int.natCast_add, Int.add_mul]; simp
theorem mul_le {i m : Nat} {piece : Int} (h : i + 1 ≤ m) (hp : 0 < piece) : ((i : Int) + 1) * piece ≤ (m : Int) * piece :=
  Int.mul_le_mul_of_nonneg_right (by omega) (by omega)
/-- What is cut already does not turn. -/
theorem upTo_keep {l : List FileV} {piece t t' : Int} {m i : Nat} (h : i + 1 ≤ m) (hp : 0 < piece) (h1 : (m : Int) * piece ≤ t) (h2 : (m : Int) * piece ≤ t') : upTo l piece t i = upTo l piece t' i := by
  have := mul_le h hp
  unfold upTo
  rw [Int.min_eq_left (by omega), Int.min_eq_left (by omega)]
theorem cutFile_inv {l pre post : List FileV} {f : FileV} {piece : Int} (hl : l = pre ++ f :: post) (hp : 0 < piece) (hf : ∀ g ∈ l, 0 ≤ g.len) : ∀ (fuel : Nat) (at' room : Int) (m : Nat) (out : List (List SpanV)), CutInv l piece (sumOf pre + at') room m out → 0 ≤ at' → at' ≤ f.len → (at' = 0 ∨ room = 0 ∨ at' = f.len) → f.len - at' < fuel →
    ∃ m', CutInv l piece (sumOf pre + f.len) (cutFile piece pre.length f.len fuel at' room out).1 m' (cutFile piece pre.length f.len fuel at' room out).2
  | 0, at', room, m, out, h, h0, h1, h2, h3 => by omega
  | fuel + 1, at', room, m, out, h, h0, h1, h2, h3 => by
    by_cases hlt : at' < f.len
    · have hsum0 := (sum_mono l hf pre.length).1
      rw [hl, List.take_left] at hsum0
      by_cases hr : room = 0
      · subst hr
        obtain ⟨ho, hm, -, -⟩ := h
        have hn : 0 < min piece (f.len - at') := by omega
        have hst := rowGo_step pre post f ((m : Int) * piece) at' (min piece (f.len - at')) (hl ▸ hf) h0 hn (by omega) (by omega) (.inr (by omega))
        have hnone := rowGo_none ((m : Int) * piece) (sumOf pre + at') (pre ++ f :: post) 0 0 (hl ▸ hf) (by omega)
        rw [hnone, List.nil_append, ← hl] at hst
        have := cutFile_inv hl hp hf fuel (at' + min piece (f.len - at')) (piece - min piece (f.len - at')) (m + 1) (addLast (out ++ [[]]) ⟨pre.length, at', min piece (f.len - at')⟩) ⟨?_, by rw [mul_next]; omega, by omega, by omega⟩ (by omega) (by omega) (by omega) (by omega)
        · simpa [cutFile, hlt] using this
        · rw [ho]
          have hk : (List.range m).map (upTo l piece (sumOf pre + at')) = (List.range m).map (upTo l piece (sumOf pre + (at' + min piece (f.len - at')))) := by
            apply List.map_congr_left
            intro i hi
            exact upTo_keep (m := m) (by simp at hi; omega) hp (by omega) (by omega)
          have hl1 : upTo l piece (sumOf pre + (at' + min piece (f.len - at'))) m = [⟨pre.length, at', min piece (f.len - at')⟩] := by
            unfold upTo
            rw [Int.add_mul, Int.one_mul, Int.min_eq_right (by omega), ← Int.add_assoc]
            exact hst
          rw [hk, List.range_succ, List.map_append, List.map_singleton, hl1]
          simp [addLast]
      · obtain ⟨ho, hm, hr0, hr1⟩ := h
        obtain rfl : at' = 0 := by omega
        obtain ⟨m, rfl⟩ : ∃ k, m = k + 1 := by
          cases m with
          | zero => simp at hm; omega
          | succ k => exact ⟨k, rfl⟩
        rw [mul_next] at hm
        have hn : 0 < min room (f.len - 0) := by omega
        have hst := rowGo_step pre post f ((m : Int) * piece) 0 (min room (f.len - 0)) (hl ▸ hf) h0 hn (by omega) (by omega) (.inl rfl)
        rw [← hl] at hst
        have := cutFile_inv hl hp hf fuel (0 + min room (f.len - 0)) (room - min room (f.len - 0)) (m + 1) (addLast out ⟨pre.length, 0, min room (f.len - 0)⟩) ⟨?_, by rw [mul_next]; omega, by omega, by omega⟩ (by omega) (by omega) (by omega) (by omega)
        · simpa only [cutFile, hlt, hr, if_true, if_false] using this
        · rw [ho, addLast_range, List.range_succ, List.map_append, List.map_singleton]
          have hk : (List.range m).map (upTo l piece (sumOf pre + 0)) = (List.range m).map (upTo l piece (sumOf pre + (0 + min room (f.len - 0)))) := by
            apply List.map_congr_left
            intro i hi
            exact upTo_keep (m := m) (by simp at hi; omega) hp (by omega) (by omega)
          rw [hk]
          congr 2
          unfold upTo
          rw [Int.add_mul, Int.one_mul, show min ((m : Int) * piece + piece) (sumOf pre + 0) = sumOf pre + 0 by omega, show min ((m : Int) * piece + piece) (sumOf pre + (0 + min room (f.len - 0))) = sumOf pre + 0 + min room (f.len - 0) by omega]
          exact hst.symm
    · have he : at' = f.len := by omega
      subst he
      simp only [cutFile, Int.lt_irrefl, if_false]
      exact ⟨m, h⟩
theorem cutGo_inv {l : List FileV} {piece : Int} (hp : 0 < piece) (hf : ∀ g ∈ l, 0 ≤ g.len) : ∀ (post pre : List FileV) (room : Int) (m : Nat) (out : List (List SpanV)), l = pre ++ post → CutInv l piece (sumOf pre) room m out →
    ∃ m' room', CutInv l piece (sumOf l) room' m' (cutGo piece false pre.length room out post)
  | [], pre, room, m, out, hl, h => by
    simp at hl
    subst hl
    exact ⟨m, room, h⟩
  | f :: r, pre, room, m, out, hl, h => by
    have hlen : 0 ≤ f.len := hf f (by rw [hl]; simp)
    obtain ⟨m', h2⟩ := cutFile_inv hl hp hf (f.len.toNat + 1) 0 room m out (by simpa using h) (by omega) hlen (.inl rfl) (by omega)
    have e : sumOf pre + f.len = sumOf (pre ++ [f]) := by simp [sumOf]
    rw [e] at h2
    have := cutGo_inv hp hf r (pre ++ [f]) _ m' _ (by simp [hl]) h2
    simpa [cutGo] using this
theorem rowGo_cap (lo hi T : Int) : ∀ (l : List FileV) (b : Int) (k : Nat), (∀ f ∈ l, 0 ≤ f.len) → b + sumOf l ≤ T → rowGo lo (min hi T) b k l = rowGo lo hi b k l
  | [], _, _, _, _ => rfl
  | f :: l, b, k, hp, h => by
    have hs := (sum_mono l (fun g hg => hp g (.tail _ hg)) 0).2
    simp only [sumOf, List.map_cons, List.sum_cons, List.take_zero, List.map_nil, List.sum_nil] at h hs
    have := rowGo_cap lo hi T l (b + f.len) (k + 1) (fun g hg => hp g (.tail _ hg)) (by simp only [sumOf]; omega)
    simp only [rowGo, this]
    rw [show min (min hi T) (b + f.len) = min hi (b + f.len) by omega]
/-- The cut, the old way. -/
theorem cut_old {l : List FileV} {piece : Int} (hp : 0 < piece) (hf : ∀ g ∈ l, 0 ≤ g.len) : cutOf l piece false = (List.range ((sumOf l + piece - 1) / piece).toNat).map (fun i : Nat => spansOf l piece false i) := by
  obtain ⟨m, room, h1, h2, h3, h4⟩ := cutGo_inv (l := l) (piece := piece) hp hf l [] 0 0 [] rfl ⟨rfl, by simp [sumOf], by omega, hp⟩
  have hm : (sumOf l + piece - 1) / piece = m := by
    rw [Int.ediv_eq_iff_of_pos hp]
    constructor <;> omega
  rw [hm]
  show cutGo piece false 0 0 [] l = _
  have h1' : cutGo piece false 0 0 [] l = (List.range m).map (upTo l piece (sumOf l)) := h1
  rw [h1', Int.toNat_natCast]
  apply List.map_congr_left
  intro i _
  unfold upTo spansOf
  rw [rowGo_cap _ _ _ l 0 0 hf (by omega)]
  simp

/-! ### the new way -/
def newList (piece : Int) : Nat → List FileV → List (List SpanV)
  | _, [] => []
  | k, f :: r => (List.range (countOf f piece).toNat).map (fun j : Nat => [⟨k, (j : Int) * piece, min piece (f.len - (j : Int) * piece)⟩]) ++ newList piece (k + 1) r
theorem cutFile_new {piece : Int} (hp : 0 < piece) (k : Nat) (len : Int) : ∀ (fuel : Nat) (at' : Int) (out : List (List SpanV)), at' ≤ len → len - at' < fuel →
    (cutFile piece k len fuel at' 0 out).2 = out ++ (List.range ((len - at' + piece - 1) / piece).toNat).map (fun j : Nat => [⟨k, at' + (j : Int) * piece, min piece (len - (at' + (j : Int) * piece))⟩])
  | 0, at', out, h, h3 => by omega
  | fuel + 1, at', out, h, h3 => by
    by_cases hlt : at' < len
    · have hl1 : addLast (out ++ [[]]) ⟨k, at', min piece (len - at')⟩ = out ++ [[⟨k, at', min piece (len - at')⟩]] := by simp [addLast]
      by_cases hfull : piece ≤ len - at'
      · have hmin : min piece (len - at') = piece := by omega
        have ih := cutFile_new hp k len fuel (at' + piece) (out ++ [[⟨k, at', piece⟩]]) (by omega) (by omega)
        have e : (len - at' + piece - 1) / piece = (len - (at' + piece) + piece - 1) / piece + 1 := by
          rw [show len - at' + piece - 1 = (len - (at' + piece) + piece - 1) + 1 * piece by omega, Int.add_mul_ediv_right _ _ (by omega)]
        have hq : 0 ≤ (len - (at' + piece) + piece - 1) / piece := Int.ediv_nonneg (by omega) (by omega)
        obtain ⟨q, hq2⟩ := Int.eq_ofNat_of_zero_le hq
        rw [e, hq2]
        rw [hq2] at ih
        rw [hmin] at hl1
        simp only [cutFile, hlt, if_true, hmin, Int.sub_self, hl1]
        rw [ih]
        rw [show ((q : Int) + 1).toNat = q + 1 by omega, Int.toNat_natCast, List.range_succ_eq_map, List.map_cons, List.map_map]
        simp only [List.append_assoc, List.singleton_append, Int.natCast_zero, Int.zero_mul, Int.add_zero, hmin]
        congr 2
        apply List.map_congr_left
        intro j _
        simp only [Function.comp, Nat.succ_eq_add_one, mul_next]
        rw [show at' + piece + (j : Int) * piece = at' + ((j : Int) * piece + piece) by omega]
      · have hmin : min piece (len - at') = len - at' := by omega
        have e : (len - at' + piece - 1) / piece = 1 := by
          rw [Int.ediv_eq_iff_of_pos hp]
          constructor <;> omega
        have hstop : ∀ room o, (cutFile piece k len fuel len room o).2 = o := by
          intro room o
          cases fuel <;> simp [cutFile]
        rw [hmin] at hl1
        simp only [cutFile, hlt, if_true, hmin, hl1]
        rw [show at' + (len - at') = len by omega, hstop, e]
        simp [hmin]
    · have he : at' = len := by omega
      subst he
      have e : (at' - at' + piece - 1) / piece = 0 := by
        rw [Int.ediv_eq_iff_of_pos hp]
        constructor <;> omega
      rw [e]
      simp [cutFile]
theorem cutGo_new {piece : Int} (hp : 0 < piece) : ∀ (l : List FileV) (k : Nat) (room : Int) (out : List (List SpanV)), (∀ g ∈ l, 0 ≤ g.len) → cutGo piece true k room out l = out ++ newList piece k l
  | [], k, room, out, _ => by simp [cutGo, newList]
  | f :: r, k, room, out, hf => by
    have h0 := hf f (.head _)
    have hr := fun g hg => hf g (.tail _ hg)
    cases hpad : f.pad with
    | true =>
      simp only [cutGo, newList, hpad, Bool.and_self, if_true]
      rw [cutGo_new hp r (k + 1) 0 out hr]
      simp [countOf, hasN, hpad]
    | false =>
      have hc : countOf f piece = (f.len + piece - 1) / piece := by
        unfold countOf hasN
        by_cases hz : 0 < f.len
        · simp [hz, hpad]
        · have : f.len = 0 := by omega
          simp [this]
          rw [Int.ediv_eq_zero_of_lt (by omega) (by omega)]
      have h1 := cutFile_new hp k f.len (f.len.toNat + 1) 0 out h0 (by omega)
      simp only [cutGo, newList, hpad, Bool.and_false, Bool.false_eq_true, if_false, if_true]
      rw [cutGo_new hp r (k + 1) _ _ hr, h1, hc]
      simp
theorem newList_range {piece : Int} (hp : 0 < piece) : ∀ (l : List FileV) (k : Nat), (∀ g ∈ l, 0 ≤ g.len) → newList piece k l = (List.range (countsOf l piece).toNat).map (fun i : Nat => apGo piece i k l) ∧ 0 ≤ countsOf l piece
  | [], k, _ => by simp [newList, countsOf]
  | f :: r, k, hf => by
    have h0 := hf f (.head _)
    have ih := newList_range hp r (k + 1) (fun g hg => hf g (.tail _ hg))
    have hc : 0 ≤ countOf f piece := by
      unfold countOf
      split
      · exact Int.ediv_nonneg (by omega) (by omega)
      · omega
    have e : countsOf (f :: r) piece = countOf f piece + countsOf r piece := by simp [countsOf]
    obtain ⟨a, ha⟩ := Int.eq_ofNat_of_zero_le hc
    obtain ⟨b, hb⟩ := Int.eq_ofNat_of_zero_le ih.2
    refine ⟨?_, by omega⟩
    have ih1 := ih.1
    rw [hb] at ih1
    rw [e, ha, hb, newList, ih1, ha]
    rw [show ((a : Int) + (b : Int)).toNat = a + b by omega, Int.toNat_natCast, Int.toNat_natCast, List.range_add, List.map_append, List.map_map]
    congr 1
    · apply List.map_congr_left
      intro i hi
      simp only [List.mem_range] at hi
      simp only [apGo, ha]
      rw [if_pos (by omega)]
    · apply List.map_congr_left
      intro i _
      simp only [Function.comp, apGo, ha]
      rw [if_neg (by omega)]
      congr 1
      omega
theorem cut_new {l : List FileV} {piece : Int} (hp : 0 < piece) (hf : ∀ g ∈ l, 0 ≤ g.len) : cutOf l piece true = (List.range (countsOf l piece).toNat).map (fun i : Nat => spansOf l piece true i) := by
  unfold cutOf
  rw [cutGo_new hp l 0 0 [] hf, List.nil_append, (newList_range hp l 0 hf).1]
  rfl
/-- The cut holds just the pieces. -/
theorem cut_is {l : List FileV} {piece : Int} (new : Bool) (hp : 0 < piece) (hf : ∀ g ∈ l, 0 ≤ g.len) : cutOf l piece new = (List.range (piecesOf l piece new).toNat).map (fun i : Nat => spansOf l piece new i) := by
  cases new with
  | true => exact cut_new hp hf
  | false => exact cut_old hp hf
end Go.Proofs.YtnhgichiedninaaGreatDoor
