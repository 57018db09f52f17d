/-
  The spans of all pieces, one behind the other, are all files in order, each byte once. Plain Lean, no program. No condition.
-/
import Derived.Test.YtnccfikimmolgaaDoorSpZ
namespace Go.Proofs.YtnccfikimmolgaaDoor
set_option linter.unusedSimpArgs false
set_option linter.unusedVariables false

/-- Is the file over, when 'at' bytes of it are told? -/
def overF (new : Bool) (at' : Int) (f : FileV) : Bool := at' == f.len || (new && f.pad)
def skipL (new : Bool) : Int → List FileV → Nat × Int
  | at', [] => (0, at')
  | at', f :: r => if overF new at' f then ((skipL new 0 r).1 + 1, (skipL new 0 r).2) else (0, at')
/-- Where the next byte is to be. -/
def skipTo (l : List FileV) (new : Bool) (s : Nat × Int) : Nat × Int := (s.1 + (skipL new s.2 (l.drop s.1)).1, (skipL new s.2 (l.drop s.1)).2)
def lenAt (l : List FileV) (k : Nat) : Int := (l[k]?.map (·.len)).getD (-1)
def stepOk (l : List FileV) (new : Bool) (s : Nat × Int) (x : SpanV) : Bool :=
  let t := skipTo l new s
  x.file == t.1 && x.frm == t.2 && decide (1 ≤ x.cnt) && decide (x.cnt ≤ lenAt l t.1 - t.2) && decide (t.1 < l.length)
def okRow (l : List FileV) (new : Bool) : Nat × Int → List SpanV → Option (Nat × Int)
  | s, [] => some s
  | s, x :: S => if stepOk l new s x then okRow l new ((skipTo l new s).1, (skipTo l new s).2 + x.cnt) S else none
theorem okRow_app (l : List FileV) (new : Bool) : ∀ (S T : List SpanV) (s : Nat × Int), okRow l new s (S ++ T) = (okRow l new s S).bind (fun t => okRow l new t T)
  | [], T, s => rfl
  | x :: S, T, s => by
    simp only [List.cons_append, okRow]
    split
    · exact okRow_app l new S T _
    · rfl
theorem skipTo_over {l : List FileV} {new : Bool} {k : Nat} {at' : Int} (hk : k < l.length) (h : overF new at' l[k] = true) : skipTo l new (k, at') = skipTo l new (k + 1, 0) := by
  unfold skipTo
  rw [List.drop_eq_getElem_cons hk]
  simp only [skipL, h, if_true]
  rw [Prod.mk.injEq]
  exact ⟨by omega, rfl⟩
theorem skipTo_stay {l : List FileV} {new : Bool} {k : Nat} {at' : Int} (hk : k < l.length) (h : overF new at' l[k] = false) : skipTo l new (k, at') = (k, at') := by
  unfold skipTo
  rw [List.drop_eq_getElem_cons hk]
  simp [skipL, h]
theorem skipTo_end {l : List FileV} {new : Bool} {k : Nat} {at' : Int} (hk : l.length ≤ k) : skipTo l new (k, at') = (k, at') := by
  unfold skipTo
  rw [List.drop_of_length_le hk]
  simp [skipL]
theorem flat_last (out : List (List SpanV)) (s : SpanV) (h : out ≠ []) : (addLast out s).flatten = out.flatten ++ [s] := by
  obtain ⟨I, x, rfl⟩ : ∃ I x, out = I ++ [x] := ⟨out.dropLast, out.getLast h, (List.dropLast_concat_getLast h).symm⟩
  simp [addLast]
theorem addLast_ne (out : List (List SpanV)) (s : SpanV) : addLast out s ≠ [] := by simp [addLast]
/-- The cut of one file goes on where the row stands. -/
theorem cutFile_row {l : List FileV} {new : Bool} {piece : Int} (hp : 0 < piece) {k : Nat} (hk : k < l.length) (hn : (new && l[k].pad) = false) : ∀ (fuel : Nat) (at' room : Int) (out : List (List SpanV)) (s : Nat × Int), 0 ≤ at' → at' ≤ l[k].len → l[k].len - at' < fuel → 0 ≤ room → (room = 0 ∨ out ≠ []) → skipTo l new s = skipTo l new (k, at') →
    ∃ T s', (cutFile piece k l[k].len fuel at' room out).2.flatten = out.flatten ++ T ∧ okRow l new s T = some s' ∧ skipTo l new s' = skipTo l new (k + 1, 0) ∧ cntOf T = l[k].len - at' ∧ 0 ≤ (cutFile piece k l[k].len fuel at' room out).1 ∧ ((cutFile piece k l[k].len fuel at' room out).1 = 0 ∨ (cutFile piece k l[k].len fuel at' room out).2 ≠ [])
  | 0, at', room, out, s, h0, h1, h2, h3, h4, h5 => by omega
  | fuel + 1, at', room, out, s, h0, h1, h2, h3, h4, h5 => by
    by_cases hlt : at' < l[k].len
    · have hst : skipTo l new (k, at') = (k, at') := skipTo_stay hk (by simp only [overF, hn, Bool.or_false]; simp; omega)
      rw [hst] at h5
      have key : ∀ (room1 : Int) (out1 : List (List SpanV)), 0 < room1 → out1 ≠ [] → out1.flatten = out.flatten →
          ∃ T s', (cutFile piece k l[k].len fuel (at' + min room1 (l[k].len - at')) (room1 - min room1 (l[k].len - at')) (addLast out1 ⟨k, at', min room1 (l[k].len - at')⟩)).2.flatten = out.flatten ++ T ∧ okRow l new s T = some s' ∧ skipTo l new s' = skipTo l new (k + 1, 0) ∧ cntOf T = l[k].len - at' ∧
            0 ≤ (cutFile piece k l[k].len fuel (at' + min room1 (l[k].len - at')) (room1 - min room1 (l[k].len - at')) (addLast out1 ⟨k, at', min room1 (l[k].len - at')⟩)).1 ∧ ((cutFile piece k l[k].len fuel (at' + min room1 (l[k].len - at')) (room1 - min room1 (l[k].len - at')) (addLast out1 ⟨k, at', min room1 (l[k].len - at')⟩)).1 = 0 ∨ (cutFile piece k l[k].len fuel (at' + min room1 (l[k].len - at')) (room1 - min room1 (l[k].len - at')) (addLast out1 ⟨k, at', min room1 (l[k].len - at')⟩)).2 ≠ []) := by
        intro room1 out1 hr ho hfl
        have hn0 : 0 < min room1 (l[k].len - at') := by omega
        obtain ⟨T, s', e1, e2, e3, e4, e5, e6⟩ := cutFile_row hp hk hn fuel (at' + min room1 (l[k].len - at')) (room1 - min room1 (l[k].len - at')) (addLast out1 ⟨k, at', min room1 (l[k].len - at')⟩) (k, at' + min room1 (l[k].len - at')) (by omega) (by omega) (by omega) (by omega) (.inr (addLast_ne _ _)) rfl
        refine ⟨⟨k, at', min room1 (l[k].len - at')⟩ :: T, s', ?_, ?_, e3, ?_, e5, e6⟩
        · rw [e1, flat_last _ _ ho, hfl]; simp
        · have hl : lenAt l k = l[k].len := by simp [lenAt, hk]
          rw [okRow, if_pos (by simp only [stepOk, h5, hl]; simp [hk]; omega), h5]
          exact e2
        · have : cntOf (⟨k, at', min room1 (l[k].len - at')⟩ :: T) = min room1 (l[k].len - at') + cntOf T := by simp [cntOf]
          rw [this, e4]
          omega
      by_cases hr : room = 0
      · have := key piece (out ++ [[]]) hp (by simp) (by simp)
        simpa only [cutFile, hlt, hr, if_true] using this
      · have := key room out (by omega) (h4.resolve_left hr) rfl
        simpa only [cutFile, hlt, hr, if_true, if_false] using this
    · have he : at' = l[k].len := by omega
      refine ⟨[], s, ?_, rfl, ?_, ?_, ?_, ?_⟩
      · simp [cutFile, hlt]
      · rw [h5, he]; exact skipTo_over hk (by simp [overF])
      · simp [cntOf]; omega
      · simpa [cutFile, hlt] using h3
      · simpa [cutFile, hlt] using h4
def wantOf (new : Bool) (l : List FileV) : Int := (l.map (fun f => if !new || !f.pad then f.len else 0)).sum
theorem cutGo_row {l : List FileV} {new : Bool} {piece : Int} (hp : 0 < piece) (hf : ∀ g ∈ l, 0 ≤ g.len) : ∀ (post pre : List FileV) (room : Int) (out : List (List SpanV)) (s : Nat × Int), l = pre ++ post → okRow l new (0, 0) out.flatten = some s → skipTo l new s = skipTo l new (pre.length, 0) → 0 ≤ room → (room = 0 ∨ out ≠ []) →
    ∃ s', okRow l new (0, 0) (cutGo piece new pre.length room out post).flatten = some s' ∧ cntOf (cutGo piece new pre.length room out post).flatten = cntOf out.flatten + wantOf new post
  | [], pre, room, out, s, hl, h1, h2, h3, h4 => ⟨s, by simpa [cutGo] using h1, by simp [cutGo, wantOf]⟩
  | f :: r, pre, room, out, s, hl, h1, h2, h3, h4 => by
    have hk : pre.length < l.length := by rw [hl]; simp
    have hfk : l[pre.length] = f := by simp [hl]
    have hlen : 0 ≤ f.len := hf f (by rw [hl]; simp)
    have hpl : (pre ++ [f]).length = pre.length + 1 := by simp
    cases hnp : (new && f.pad) with
    | true =>
      have ho : overF new 0 l[pre.length] = true := by rw [hfk]; simp [overF, hnp]
      have hs := h2.trans (skipTo_over hk ho)
      have := cutGo_row hp hf r (pre ++ [f]) 0 out s (by simp [hl]) h1 (by rw [hpl]; exact hs) (by omega) (.inl rfl)
      rw [hpl] at this
      simp only [cutGo, hnp, if_true]
      obtain ⟨s', e1, e2⟩ := this
      refine ⟨s', e1, ?_⟩
      rw [e2]
      have hw : wantOf new (f :: r) = wantOf new r := by
        simp only [Bool.and_eq_true] at hnp
        simp [wantOf, hnp.1, hnp.2]
      rw [hw]
    | false =>
      obtain ⟨T, s1, e1, e2, e3, e4, e5, e6⟩ := cutFile_row (l := l) hp hk (by rw [hfk]; exact hnp) (f.len.toNat + 1) 0 (if new then 0 else room) out s (by omega) (by rw [hfk]; exact hlen) (by rw [hfk]; omega) (by split <;> omega) (by split; exact .inl rfl; exact h4) h2
      rw [hfk] at e1 e4 e5 e6
      have := cutGo_row hp hf r (pre ++ [f]) _ _ s1 (by simp [hl]) (by rw [e1, okRow_app, h1]; exact e2) (by rw [hpl]; exact e3) e5 e6
      rw [hpl] at this
      obtain ⟨s', g1, g2⟩ := this
      have hgo : cutGo piece new pre.length room out (f :: r) = cutGo piece new (pre.length + 1) (cutFile piece pre.length f.len (f.len.toNat + 1) 0 (if new then 0 else room) out).1 (cutFile piece pre.length f.len (f.len.toNat + 1) 0 (if new then 0 else room) out).2 r := by simp [cutGo, hnp]
      rw [hgo]
      refine ⟨s', g1, ?_⟩
      rw [g2, e1, cnt_app, e4]
      have hw : wantOf new (f :: r) = f.len + wantOf new r := by
        unfold wantOf
        rw [List.map_cons, List.sum_cons, if_pos]
        cases new <;> simp_all
      rw [hw]
      omega
theorem cut_row {l : List FileV} {new : Bool} {piece : Int} (hp : 0 < piece) (hf : ∀ g ∈ l, 0 ≤ g.len) : (∃ s, okRow l new (0, 0) (cutOf l piece new).flatten = some s) ∧ cntOf (cutOf l piece new).flatten = wantOf new l := by
  obtain ⟨s, h1, h2⟩ := cutGo_row (l := l) (new := new) hp hf l [] 0 [] (0, 0) rfl rfl rfl (by omega) (.inl rfl)
  exact ⟨⟨s, h1⟩, by simpa [cntOf, cutOf] using h2⟩
/-- Where the row stands behind the first i pieces. -/
def rowTo (l : List FileV) (piece : Int) (new : Bool) (i : Nat) : List SpanV := ((List.range i).map (fun j : Nat => spansOf l piece new j)).flatten
theorem rowTo_next (l : List FileV) (piece : Int) (new : Bool) (i : Nat) : rowTo l piece new (i + 1) = rowTo l piece new i ++ spansOf l piece new i := by
  simp [rowTo, List.range_succ]
theorem okRow_pre {l : List FileV} {new : Bool} {S T : List SpanV} {s s' : Nat × Int} (h : okRow l new s (S ++ T) = some s') : ∃ t, okRow l new s S = some t ∧ okRow l new t T = some s' := by
  rw [okRow_app] at h
  cases hS : okRow l new s S with
  | none => rw [hS] at h; simp at h
  | some t => rw [hS] at h; exact ⟨t, rfl, h⟩
theorem rowTo_ok {l : List FileV} {piece : Int} {new : Bool} (hp : 0 < piece) (hf : ∀ g ∈ l, 0 ≤ g.len) {n : Nat} (hn : n = (piecesOf l piece new).toNat) : ∀ i, i ≤ n → ∃ s, okRow l new (0, 0) (rowTo l piece new i) = some s := by
  intro i hi
  obtain ⟨⟨s, h1⟩, -⟩ := cut_row (l := l) (new := new) hp hf
  rw [cut_is new hp hf, ← hn] at h1
  have e : ((List.range n).map (fun j : Nat => spansOf l piece new j)).flatten = rowTo l piece new i ++ ((List.range' i (n - i)).map (fun j : Nat => spansOf l piece new j)).flatten := by
    unfold rowTo
    rw [← List.flatten_append, ← List.map_append]
    congr 2
    rw [List.range_eq_range', List.range_eq_range', show n = i + (n - i) by omega]
    rw [← List.range'_append_1]
    simp
  rw [e] at h1
  obtain ⟨t, h2, -⟩ := okRow_pre h1
  exact ⟨t, h2⟩
theorem rowTo_sum {l : List FileV} {piece : Int} {new : Bool} (hp : 0 < piece) (hf : ∀ g ∈ l, 0 ≤ g.len) : cntOf (rowTo l piece new (piecesOf l piece new).toNat) = wantOf new l := by
  obtain ⟨-, h⟩ := cut_row (l := l) (new := new) hp hf
  rw [cut_is new hp hf] at h
  exact h
theorem skipL_bd (new : Bool) : ∀ (l : List FileV) (at' : Int), (skipL new at' l).1 ≤ l.length ∧ (0 ≤ at' → at' ≤ 65536 → 0 ≤ (skipL new at' l).2 ∧ (skipL new at' l).2 ≤ 65536)
  | [], at' => ⟨by simp [skipL], fun h0 h1 => ⟨h0, h1⟩⟩
  | f :: r, at' => by
    have := skipL_bd new r 0
    simp only [skipL]
    split
    · refine ⟨by simp; exact this.1, fun _ _ => this.2 (by omega) (by omega)⟩
    · exact ⟨by simp, fun h0 h1 => ⟨h0, h1⟩⟩
theorem skipTo_bd {l : List FileV} {new : Bool} {s : Nat × Int} (h0 : s.1 ≤ l.length) (h1 : 0 ≤ s.2) (h2 : s.2 ≤ 65536) : (skipTo l new s).1 ≤ l.length ∧ 0 ≤ (skipTo l new s).2 ∧ (skipTo l new s).2 ≤ 65536 := by
  have := skipL_bd new (l.drop s.1) s.2
  have h3 := this.1
  simp at h3
  exact ⟨by show s.1 + _ ≤ _; omega, this.2 h1 h2⟩
theorem step_bd {l : List FileV} {new : Bool} {s : Nat × Int} {x : SpanV} (hl : ∀ g ∈ l, g.len ≤ 65536) (h0 : s.1 ≤ l.length) (h1 : 0 ≤ s.2) (h2 : s.2 ≤ 65536) (h : stepOk l new s x = true) : (skipTo l new s).1 < l.length ∧ 0 ≤ (skipTo l new s).2 + x.cnt ∧ (skipTo l new s).2 + x.cnt ≤ 65536 := by
  have hb := skipTo_bd (new := new) h0 h1 h2
  simp only [stepOk, Bool.and_eq_true, decide_eq_true_eq] at h
  obtain ⟨⟨⟨⟨a1, a2⟩, a3⟩, a4⟩, a5⟩ := h
  have : lenAt l (skipTo l new s).1 ≤ 65536 := by
    simp only [lenAt, List.getElem?_eq_getElem a5, Option.map_some, Option.getD_some]
    exact hl _ (List.getElem_mem a5)
  omega
theorem okRow_bd {l : List FileV} {new : Bool} (hl : ∀ g ∈ l, g.len ≤ 65536) : ∀ (S : List SpanV) (s s' : Nat × Int), okRow l new s S = some s' → s.1 ≤ l.length → 0 ≤ s.2 → s.2 ≤ 65536 → s'.1 ≤ l.length ∧ 0 ≤ s'.2 ∧ s'.2 ≤ 65536
  | [], s, s', h, h0, h1, h2 => by simp [okRow] at h; subst h; exact ⟨h0, h1, h2⟩
  | x :: S, s, s', h, h0, h1, h2 => by
    simp only [okRow] at h
    split at h
    · next hs =>
      have := step_bd hl h0 h1 h2 hs
      exact okRow_bd hl S _ s' h (by simp only; omega) this.2.1 this.2.2
    · cases h
end Go.Proofs.YtnccfikimmolgaaDoor
