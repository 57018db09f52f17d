/-
  What Parse answers, told twice, is one; what Format writes of a valid list is read as it was. Plain Lean, no program. No condition.
-/
import Derived.Test.YtnhgichiedninaaDoorTxN
namespace Go.Proofs.YtnhgichiedninaaDoor
set_option linter.unusedSimpArgs false
set_option linter.unusedVariables false

def textX (x : Bool × List UInt8 × List UInt8) : List UInt8 := (if x.1 then [42] else []) ++ x.2.1 ++ [32] ++ x.2.2
theorem line_text {L : List UInt8} {x : Bool × List UInt8 × List UInt8} (h : lineP L = some x) : L = textX x ∧ x.2.1.all isDig = true ∧ canon x.2.1 = true := lineP_text (pad := x.1) (ds := x.2.1) (r := x.2.2) h
theorem files_form : ∀ (Ls : List (List UInt8)), (∀ L ∈ Ls, (lineP L).isSome = true) → ∃ xs : List (Bool × List UInt8 × List UInt8), xs.length = Ls.length ∧ filesP Ls = xs.map fileP ∧ filesR Ls = xs.map fileR ∧ Ls = xs.map textX ∧ ∀ x ∈ xs, x.2.1.all isDig = true ∧ canon x.2.1 = true
  | [], _ => ⟨[], rfl, rfl, rfl, rfl, by simp⟩
  | L :: r, h => by
    obtain ⟨xs, h0, h1, h2, h3, h4⟩ := files_form r (fun K hK => h K (by simp [hK]))
    have hL := h L (by simp)
    obtain ⟨x, hx⟩ := Option.isSome_iff_exists.1 hL
    obtain ⟨t1, t2, t3⟩ := line_text hx
    refine ⟨x :: xs, by simp [h0], ?_, ?_, by rw [List.map_cons, ← t1, ← h3], ?_⟩
    · rw [List.map_cons, ← h1]
      simp [filesP, hx]
    · rw [List.map_cons, ← h2]
      simp [filesR, hx]
    · intro y hy
      rcases List.mem_cons.1 hy with rfl | hy
      · exact ⟨t2, t3⟩
      · exact h4 y hy
theorem len_same {ds : List UInt8} (h : lenP ds ≤ 65536 ∨ lenR ds ≤ 65536) : lenP ds = lenR ds ∧ lenR ds = decVal ds := by
  unfold lenP lenR at *
  by_cases h1 : decVal ds ≤ 65536
  · rw [if_pos h1, if_pos (by omega)]
    exact ⟨rfl, rfl⟩
  · rw [if_neg h1] at h ⊢
    by_cases h2 : decVal ds ≤ 9223372036854775807
    · rw [if_pos h2] at h
      omega
    · rw [if_neg h2] at h
      omega
theorem map_same {xs : List (Bool × List UInt8 × List UInt8)} (h : ∀ x ∈ xs, lenP x.2.1 = lenR x.2.1) : xs.map fileP = xs.map fileR := List.map_congr_left fun x hx => by simp only [fileP, fileR, h x hx]
theorem valid_same {xs : List (Bool × List UInt8 × List UInt8)} (h : validOf (xs.map fileP) = true ∨ validOf (xs.map fileR) = true) : xs.map fileP = xs.map fileR ∧ ∀ x ∈ xs, lenR x.2.1 = decVal x.2.1 := by
  have key : ∀ x ∈ xs, lenP x.2.1 = lenR x.2.1 ∧ lenR x.2.1 = decVal x.2.1 := by
    intro x hx
    refine len_same ?_
    rcases h with h | h
    · exact .inl (valid_file h (fileP x) (List.mem_map_of_mem hx)).2.1
    · exact .inr (valid_file h (fileR x) (List.mem_map_of_mem hx)).2.1
  exact ⟨map_same fun x hx => (key x hx).1, fun x hx => (key x hx).2⟩
theorem fmt_textX {x : Bool × List UInt8 × List UInt8} (h1 : x.2.1.all isDig = true) (h2 : canon x.2.1 = true) (h3 : lenR x.2.1 = decVal x.2.1) : fmtLine (fileR x) = textX x ++ [10] := by
  have e : Lib.itoa (lenR x.2.1) = x.2.1 := by rw [h3, Lib.itoa_nonneg, dec_back h1 h2]
  unfold fmtLine fileR textX
  simp only [e, joinB_pathP]
/-- The reference's own test: is what is read written so? -/
theorem format_test {Ls : List (List UInt8)} (hne : Ls ≠ []) (h : ∀ L ∈ Ls, (lineP L).isSome = true) : decide (fmtOf (filesR Ls) = Ls.flatMap fun L => L ++ [10]) = validOf (filesP Ls) ∧ (validOf (filesP Ls) = true → filesR Ls = filesP Ls) := by
  obtain ⟨xs, h0, h1, h2, h3, h4⟩ := files_form Ls h
  rw [h1, h2]
  cases hv : validOf (xs.map fileP) with
  | true =>
    obtain ⟨e, hl⟩ := valid_same (.inl hv)
    refine ⟨?_, fun _ => e.symm⟩
    rw [decide_eq_true_eq, fmtOf, ← e, if_pos hv, e, h3, List.flatMap_map, List.flatMap_map]
    have key : ∀ ys : List (Bool × List UInt8 × List UInt8), (∀ x ∈ ys, x ∈ xs) → (ys.flatMap fun x => fmtLine (fileR x)) = ys.flatMap fun x => textX x ++ [10] := by
      intro ys
      induction ys with
      | nil => intro _; rfl
      | cons y ys ih =>
        intro hy
        have hy0 := hy y (by simp)
        rw [List.flatMap_cons, List.flatMap_cons, ih (fun x hx => hy x (by simp [hx])), fmt_textX (h4 y hy0).1 (h4 y hy0).2 (hl y hy0)]
    exact key xs (fun _ h => h)
  | false =>
    refine ⟨?_, fun q => by cases q⟩
    have hr : validOf (xs.map fileR) = false := by
      cases q : validOf (xs.map fileR) with
      | false => rfl
      | true => rw [(valid_same (.inr q)).1, q] at hv; cases hv
    rw [decide_eq_false_iff_not, fmtOf, hr]
    intro e
    cases Ls with
    | nil => exact hne rfl
    | cons L r => simp at e

/-! ### what is written is read -/
theorem mem_join {b : UInt8} : ∀ {p : List (List UInt8)}, b ∈ Lib.join p [47] → b = 47 ∨ ∃ x ∈ p, b ∈ x
  | [], h => by simp [Lib.join] at h
  | x :: r, h => by
    rw [Lib.join_cons, List.mem_append] at h
    rcases h with h | h
    · exact .inr ⟨x, by simp, h⟩
    · simp only [Lib.joinTail, List.mem_flatten, List.mem_map] at h
      obtain ⟨y, ⟨z, hz, rfl⟩, hy⟩ := h
      rcases List.mem_append.1 hy with q | q
      · exact .inl (by simpa using q)
      · exact .inr ⟨z, by simp [hz], q⟩
theorem part_bytes {s : ByteArray} (h : partOk s = true) : (∀ b ∈ s.data.toList, 32 ≤ b.toNat ∧ b ≠ 47) ∧ s.size ≤ 40 := by
  unfold partOk at h
  simp only [Bool.and_eq_true, decide_eq_true_eq, List.all_eq_true] at h
  obtain ⟨⟨⟨⟨h1, h2⟩, h3⟩, h4⟩, h5⟩ := h
  refine ⟨fun b hb => ?_, h3⟩
  have := h1 b hb
  simp only [badByte, Bool.not_eq_true', Bool.or_eq_false_iff, decide_eq_false_iff_not] at this
  refine ⟨by omega, fun e => ?_⟩
  subst e
  exact this.1.2 rfl
theorem bare_ok {f : FileV} (h0 : 0 ≤ f.len) (h1 : f.len ≤ 65536) (hp : f.path ≠ []) (hl : f.path.length ≤ 8) (hs : ∀ s ∈ f.path, partOk s = true) :
    (10 : UInt8) ∉ bareLine f ∧ (lineP (bareLine f)).map fileP = some f ∧ (bareLine f).length ≤ 360 := by
  obtain ⟨u, hu⟩ := Int.eq_ofNat_of_zero_le h0
  have hi : Lib.itoa f.len = Lib.decDigits u := by rw [hu, Lib.itoa_nonneg]
  obtain ⟨d1, d2, d3, -, -⟩ := dec_read u
  have hsz := itoa_size (n := f.len) (by omega) (by omega)
  have hsz2 : (Lib.itoa f.len).length ≤ 21 := by simpa [itoaB, ByteArray.size] using hsz
  refine ⟨?_, ?_, ?_⟩
  · intro q
    unfold bareLine at q
    rw [hi] at q
    simp only [List.mem_append] at q
    rcases q with ((q | q) | q) | q
    · split at q <;> simp at q
    · have := List.all_eq_true.1 d2 10 q
      simp [isDig] at this
    · simp at q
    · rcases mem_join (p := f.path.map (·.data.toList)) q with e | ⟨x, hx, hb⟩
      · cases e
      · obtain ⟨s, hs', rfl⟩ := List.mem_map.1 hx
        have := ((part_bytes (hs s hs')).1 10 hb).1
        simp at this
  · unfold bareLine
    rw [hi, lineP_mk d2 d3]
    simp only [Option.map_some, fileP, Option.some.injEq]
    rw [(lenP_dec (by omega)).1, pathP_joinB hp (fun s hs' => part_free (hs s hs')), ← hu]
  · have hj : ∀ p : List ByteArray, (∀ s ∈ p, s.size ≤ 40) → (Lib.join (p.map (·.data.toList)) [47]).length ≤ p.length * 41 := by
      intro p
      cases p with
      | nil => intro _; simp [Lib.join]
      | cons x r =>
        intro hx
        have ht : ∀ r : List ByteArray, (∀ s ∈ r, s.size ≤ 40) → (Lib.joinTail [47] (r.map (·.data.toList))).length ≤ r.length * 41 := by
          intro r
          induction r with
          | nil => intro _; simp [Lib.joinTail]
          | cons y t ih =>
            intro hy
            have h1 := ih (fun s hs => hy s (by simp [hs]))
            have h2 := hy y (by simp)
            have h3 : y.data.toList.length = y.size := by rw [Array.length_toList]; rfl
            simp only [Lib.joinTail, List.map_cons, List.flatten_cons, List.length_append, List.length_cons, List.length_nil] at *
            omega
        have h1 := ht r (fun s hs => hx s (by simp [hs]))
        have h2 := hx x (by simp)
        have h3 : x.data.toList.length = x.size := by rw [Array.length_toList]; rfl
        rw [List.map_cons, Lib.join_cons, List.length_append, List.length_cons]
        omega
    have h1 := hj f.path (fun s hs' => (part_bytes (hs s hs')).2)
    have h2 : (joinB f.path).data.toList = Lib.join (f.path.map (·.data.toList)) [47] := rfl
    unfold bareLine
    rw [h2]
    simp only [List.length_append, List.length_cons, List.length_nil]
    split
    · simp; omega
    · simp; omega
theorem read_bare : ∀ (l : List FileV), (∀ f ∈ l, (lineP (bareLine f)).map fileP = some f) → filesP (l.map bareLine) = l ∧ ∀ i, badAt (l.map bareLine) i = none
  | [], _ => ⟨rfl, fun _ => rfl⟩
  | f :: r, h => by
    obtain ⟨h1, h2⟩ := read_bare r (fun g hg => h g (by simp [hg]))
    have hf := h f (by simp)
    constructor
    · simp only [filesP, List.map_cons] at *
      rw [List.filterMap_cons, hf]
      simp only
      rw [h1]
    · intro i
      rw [List.map_cons, badAt]
      have : (lineP (bareLine f)).isSome = true := by
        cases q : lineP (bareLine f) with
        | none => rw [q] at hf; cases hf
        | some x => rfl
      rw [if_pos this]
      exact h2 _
theorem round_trip {l : List FileV} (h : validOf l = true) : parseL (fmtOf l) = l ∧ parseLine (fmtOf l) = 0 ∧ parseErr (fmtOf l) = 0 ∧ (fmtOf l).length ≤ 65536 := by
  have hv := valid_file h
  obtain ⟨v1, v2, -, -⟩ := valid_facts h
  have hb : ∀ f ∈ l, (10 : UInt8) ∉ bareLine f ∧ (lineP (bareLine f)).map fileP = some f ∧ (bareLine f).length ≤ 360 := fun f hf => by
    obtain ⟨a, b, c, d, e⟩ := hv f hf
    exact bare_ok a b c d e
  have e : fmtOf l = (l.map bareLine).flatMap fun L => L ++ [10] := by
    rw [fmtOf, if_pos h, List.flatMap_map]
    rfl
  obtain ⟨l1, l2⟩ := lines_of (l.map bareLine) (fun L hL => by obtain ⟨f, hf, rfl⟩ := List.mem_map.1 hL; exact (hb f hf).1)
  obtain ⟨r1, r2⟩ := read_bare l (fun f hf => (hb f hf).2.1)
  rw [e]
  refine ⟨?_, ?_, ?_, ?_⟩
  · rw [parseL, l1, r2, l2, r1]
    simp [h]
  · rw [parseLine, l1, r2, l2, r1]
    simp [h]
  · rw [parseErr, l1, r2, l2, r1]
    simp [h]
  · have hlen : ∀ m : List FileV, (∀ f ∈ m, (bareLine f).length ≤ 360) → ((m.map bareLine).flatMap fun L => L ++ [10]).length ≤ m.length * 361 := by
      intro m
      induction m with
      | nil => intro _; simp
      | cons f m ih =>
        intro hm
        have h1 := ih (fun g hg => hm g (by simp [hg]))
        have h2 := hm f (by simp)
        rw [List.map_cons, List.flatMap_cons, List.length_append, List.length_append, List.length_cons]
        simp only [List.length_cons, List.length_nil]
        omega
    have := hlen l (fun f hf => (hb f hf).2.2)
    omega
end Go.Proofs.YtnhgichiedninaaDoor
