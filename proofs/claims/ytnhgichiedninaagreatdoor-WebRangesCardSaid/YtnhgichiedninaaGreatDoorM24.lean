/-
  Several texts in one, in their build order. The walk of Read of package files, for every list, data and spans. Conditions: they lie as told; the library's table is as laid. A run of pieces: its spans, those that touch joined; what the joined parts hold. Plain Lean, no program. No condition.
-/
import Derived.Test.YtnhgichiedninaaGreatDoorM23
import Derived.Test.YtnhgichiedninaaGreatDoorM4
import Derived.Deep.RegionHeld3
import Derived.Test.YtnhgichiedninaaGreatDoorM22
namespace Go.Proofs.YtnhgichiedninaaGreatDoor
set_option linter.unusedSimpArgs false
set_option linter.unusedVariables false
open Go.RowKit Go.Shelf

/-- Does the text fit the file? -/
def fitD (f : FileV) (t : ByteArray) : Bool := decide ((t.size : Int) = f.len) || (f.pad && decide (t.size = 0))
def fitsD (l : List FileV) (data : List ByteArray) : Bool := (l.zip data).all fun p => fitD p.1 p.2
/-- Does the span lie in its file? -/
def inF (l : List FileV) (s : SpanV) : Bool := decide (0 ≤ s.file ∧ s.file < l.length) && decide (0 ≤ s.frm) && decide (0 ≤ s.cnt) && (match l[s.file.toNat]? with | some f => decide (s.frm ≤ f.len) && decide (s.cnt ≤ f.len - s.frm) | none => false)
def readErr (l : List FileV) (data : List ByteArray) (S : List SpanV) : Int :=
  if validOf l then (if data.length = l.length then (if fitsD l data then (if S.all (inF l) then (if 65536 < cntOf S then 4 else 0) else 7) else 11) else 11) else 1
def zerosL (n : Nat) : List UInt8 := List.replicate n 0
/-- The bytes of a span. -/
def bytesOf (l : List FileV) (data : List ByteArray) (s : SpanV) : List UInt8 :=
  match l[s.file.toNat]?, data[s.file.toNat]? with
  | some f, some t => if f.pad then zerosL s.cnt.toNat else (t.data.toList.drop s.frm.toNat).take s.cnt.toNat
  | _, _ => []
def readOf (l : List FileV) (data : List ByteArray) (S : List SpanV) : List UInt8 := S.flatMap (bytesOf l data)
theorem inF_at {l : List FileV} {s : SpanV} (h : inF l s = true) : ∃ (k : Nat) (f : FileV), s.file = k ∧ k < l.length ∧ l[k]? = some f ∧ 0 ≤ s.frm ∧ 0 ≤ s.cnt ∧ s.frm ≤ f.len ∧ s.cnt ≤ f.len - s.frm := by
  unfold inF at h
  simp only [Bool.and_eq_true, decide_eq_true_eq] at h
  obtain ⟨⟨⟨⟨a0, a1⟩, a2⟩, a3⟩, a4⟩ := h
  obtain ⟨k, hk⟩ := Int.eq_ofNat_of_zero_le a0
  have hlt : k < l.length := by omega
  have hf : l[k]? = some l[k] := List.getElem?_eq_getElem hlt
  rw [hk] at a4
  simp only [Int.toNat_natCast, hf, Bool.and_eq_true, decide_eq_true_eq] at a4
  exact ⟨k, l[k], hk, hlt, hf, a2, a3, a4.1, a4.2⟩
theorem fitsD_at {l : List FileV} {data : List ByteArray} (hl : data.length = l.length) (h : fitsD l data = true) {k : Nat} {f : FileV} {t : ByteArray} (hf : l[k]? = some f) (ht : data[k]? = some t) : fitD f t = true := by
  unfold fitsD at h
  rw [List.all_eq_true] at h
  refine h (f, t) ?_
  refine List.mem_of_getElem? (i := k) ?_
  simp [List.getElem?_zip_eq_some, hf, ht]
/-- A span's bytes are as many as it says. -/
theorem bytes_len {l : List FileV} {data : List ByteArray} (hl : data.length = l.length) (h : fitsD l data = true) {s : SpanV} (hs : inF l s = true) : ((bytesOf l data s).length : Int) = s.cnt := by
  obtain ⟨k, f, hk, hlt, hf, h1, h2, h3, h4⟩ := inF_at hs
  have hd : data[k]? = some (data[k]'(by omega)) := List.getElem?_eq_getElem (by omega)
  have hfit := fitsD_at hl h hf hd
  unfold bytesOf
  rw [hk, Int.toNat_natCast, hf, hd]
  simp only
  cases hp : f.pad with
  | true => simp [zerosL]; omega
  | false =>
    simp only [fitD, hp, Bool.false_and, Bool.or_false, decide_eq_true_eq] at hfit
    simp
    omega
theorem read_len {l : List FileV} {data : List ByteArray} (hl : data.length = l.length) (h : fitsD l data = true) : ∀ {S : List SpanV}, S.all (inF l) = true → ((readOf l data S).length : Int) = cntOf S
  | [], _ => by simp [readOf, cntOf]
  | s :: S, hs => by
    simp only [List.all_cons, Bool.and_eq_true] at hs
    have h1 := bytes_len hl h hs.1
    have h2 := read_len hl h hs.2
    simp only [readOf, cntOf, List.flatMap_cons, List.length_append, List.map_cons, List.sum_cons] at *
    omega
theorem read_next {l : List FileV} {data : List ByteArray} {S : List SpanV} {k : Nat} (h : k < S.length) : readOf l data (S.take (k + 1)) = readOf l data (S.take k) ++ bytesOf l data S[k] := by
  unfold readOf
  rw [List.take_succ_eq_append_getElem h, List.flatMap_append]
  simp only [List.flatMap_cons, List.flatMap_nil, List.append_nil]
theorem ret_err {X : List UInt8} {E k : Int} (h1 : X = []) (h2 : E = k) : Ending.returned (.tuple #[.string ⟨#[]⟩, .int .i64 k]) = .returned (.tuple #[.string ⟨X.toArray⟩, .int .i64 E]) := by subst h1 h2; rfl
theorem ret_text {X Y : List UInt8} {E : Int} (h1 : X = Y) (h2 : E = 0) : Ending.returned (.tuple #[.string ⟨Y.toArray⟩, .int .i64 0]) = .returned (.tuple #[.string ⟨X.toArray⟩, .int .i64 E]) := by subst h1 h2; rfl
def readX (l : List FileV) (data : List ByteArray) (S : List SpanV) : List UInt8 := if readErr l data S = 0 then readOf l data S else []
theorem fit_next {l : List FileV} {data : List ByteArray} {k : Nat} {f : FileV} {t : ByteArray} (h : ∀ (i : Nat) (f : FileV) (t : ByteArray), i < k → l[i]? = some f → data[i]? = some t → fitD f t = true) (hf : l[k]? = some f) (ht : data[k]? = some t) (hh : fitD f t = true) : ∀ (i : Nat) (f : FileV) (t : ByteArray), i < k + 1 → l[i]? = some f → data[i]? = some t → fitD f t = true := by
  intro i g u hi hg hu
  by_cases e : i = k
  · subst e
    rw [hf] at hg; rw [ht] at hu
    cases hg; cases hu
    exact hh
  · exact h i g u (by omega) hg hu
theorem fits_not {l : List FileV} {data : List ByteArray} {k : Nat} {f : FileV} {t : ByteArray} (hf : l[k]? = some f) (ht : data[k]? = some t) (hh : fitD f t = false) : fitsD l data = false := by
  rw [Bool.eq_false_iff]
  intro h
  unfold fitsD at h
  rw [List.all_eq_true] at h
  have := h (f, t) (List.mem_of_getElem? (i := k) (by simp [List.getElem?_zip_eq_some, hf, ht]))
  rw [hh] at this
  cases this
theorem fits_all {l : List FileV} {data : List ByteArray} (h : ∀ (i : Nat) (f : FileV) (t : ByteArray), i < l.length → l[i]? = some f → data[i]? = some t → fitD f t = true) : fitsD l data = true := by
  unfold fitsD
  rw [List.all_eq_true]
  rintro ⟨f, t⟩ hm
  obtain ⟨i, hi⟩ := List.getElem?_of_mem hm
  rw [List.getElem?_zip_eq_some] at hi
  exact h i f t (List.getElem?_eq_some_iff.1 hi.1).1 hi.1 hi.2
theorem inF_step {l : List FileV} {S : List SpanV} {j : Nat} {s : SpanV} (ht : S.take (j + 1) = S.take j ++ [s]) (h : ∀ s ∈ S.take j, inF l s = true) (hs : inF l s = true) : ∀ s ∈ S.take (j + 1), inF l s = true := by
  intro x hx
  rw [ht] at hx
  rcases List.mem_append.1 hx with h1 | h1
  · exact h x h1
  · obtain rfl := List.mem_singleton.1 h1
    exact hs
theorem all_notF {l : List FileV} {S : List SpanV} {s : SpanV} (hm : s ∈ S) (h : inF l s = false) : ¬ S.all (inF l) = true := by
  intro q
  rw [List.all_eq_true] at q
  have := q s hm
  rw [h] at this
  cases this
theorem min_step {m c c' s : Int} (h : m = min c 65537) (h2 : c' = c + s) (h3 : 0 ≤ s) : min (m + s) 65537 = min c' 65537 := by subst h h2; omega
theorem inF_not {l : List FileV} {s : SpanV} (h : inF l s = false) : s.file < 0 ∨ (0 ≤ s.file ∧ (l.length : Int) ≤ s.file) ∨ ∃ (k : Nat) (f : FileV), s.file = k ∧ k < l.length ∧ l[k]? = some f ∧ (s.frm < 0 ∨ (0 ≤ s.frm ∧ s.cnt < 0) ∨ (0 ≤ s.frm ∧ 0 ≤ s.cnt ∧ f.len < s.frm) ∨ (0 ≤ s.frm ∧ 0 ≤ s.cnt ∧ s.frm ≤ f.len ∧ f.len - s.frm < s.cnt)) := by
  by_cases h0 : s.file < 0
  · exact .inl h0
  by_cases h1 : (l.length : Int) ≤ s.file
  · exact .inr (.inl ⟨by omega, h1⟩)
  obtain ⟨k, hk⟩ := Int.eq_ofNat_of_zero_le (show 0 ≤ s.file by omega)
  have hlt : k < l.length := by omega
  have hf : l[k]? = some l[k] := List.getElem?_eq_getElem hlt
  refine .inr (.inr ⟨k, l[k], hk, hlt, hf, ?_⟩)
  unfold inF at h
  rw [hk] at h
  simp only [Int.toNat_natCast, hf, Bool.and_eq_false_iff, decide_eq_false_iff_not] at h
  omega
theorem ext_drop (t : ByteArray) (r c : Nat) : (t.extract r (r + c)).data.toList = (t.data.toList.drop r).take c := by
  simp [ByteArray.data_extract, List.take_drop]
theorem ext_size (t : ByteArray) (r c : Nat) (h : r + c ≤ t.size) : (t.extract r (r + c)).size = c := by simp; omega
theorem span_kept {wr w4 : World} {b0 b2 o2 k : Nat} {k0 r cn : Int} {t : ByteArray} (h0 : b0 < wr.heap.size) (n : Wrote b0 (wr.alloc (.cells #[.int .i64 k0, .int .i64 r, .int .i64 cn] 113)).drew w4) (hb : b2 < b0) (e0 : wr.cell? ⟨b2, o2 + k, none⟩ = some (.string t)) :
    w4.cell? ⟨wr.heap.size, 0, none⟩ = some (.int .i64 k0) ∧ w4.cell? ⟨wr.heap.size, 1, none⟩ = some (.int .i64 r) ∧ w4.cell? ⟨wr.heap.size, 2, none⟩ = some (.int .i64 cn) ∧ w4.cell? ⟨b2, o2 + k, none⟩ = some (.string t) := by
  have h := n.blk (Blk.drew (Blk.new wr #[.int .i64 k0, .int .i64 r, .int .i64 cn] 113)) (by omega) (by decide)
  refine ⟨h.cellv 0 rfl, h.cellv 1 rfl, h.cellv 2 rfl, ?_⟩
  exact n.mod.cellv ((Mod.drew (Mod.alloc (Mod.refl (fun _ => False) wr) _)).cellv e0 (fun x => x)) (by simp; omega)
end Go.Proofs.YtnhgichiedninaaGreatDoor

namespace Go.Proofs.YtnhgichiedninaaGreatDoor
set_option linter.unusedSimpArgs false
set_option linter.unusedVariables false

/-- A span lies within a file. -/
def InK (l : List FileV) (s : SpanV) : Prop := ∃ (k : Nat) (f : FileV), s.file = k ∧ l[k]? = some f ∧ 0 ≤ s.frm ∧ 1 ≤ s.cnt ∧ s.frm + s.cnt ≤ f.len
theorem rowGo_in (lo hi : Int) (L : List FileV) : ∀ (l : List FileV) (b : Int) (k : Nat), (∀ f ∈ l, 0 ≤ f.len) → (∀ (i : Nat) f, l[i]? = some f → L[k + i]? = some f) → ∀ s ∈ rowGo lo hi b k l, InK L s
  | [], b, k, _, _, s, hs => by simp [rowGo] at hs
  | f :: r, b, k, hf, hL, s, hs => by
    rw [rowGo] at hs
    rcases List.mem_append.1 hs with hs | hs
    · split at hs
      · next h =>
        simp only [List.mem_singleton] at hs
        subst hs
        have h0 := hf f (by simp)
        exact ⟨k, f, rfl, by simpa using hL 0 f rfl, by simp only; omega, by simp only; omega, by simp only; omega⟩
      · simp at hs
    · exact rowGo_in lo hi L r _ _ (fun g hg => hf g (by simp [hg])) (fun i g hi => by
        have := hL (i + 1) g (by simpa using hi)
        rwa [show k + (i + 1) = k + 1 + i by omega] at this) s hs
theorem apGo_in {piece : Int} (hp : 0 < piece) (L : List FileV) : ∀ (l : List FileV) (i : Int) (k : Nat), 0 ≤ i → (∀ f ∈ l, 0 ≤ f.len) → (∀ (i : Nat) f, l[i]? = some f → L[k + i]? = some f) → ∀ s ∈ apGo piece i k l, InK L s
  | [], i, k, _, _, _, s, hs => by simp [apGo] at hs
  | f :: r, i, k, hi, hf, hL, s, hs => by
    rw [apGo] at hs
    split at hs
    · next h =>
      simp only [List.mem_singleton] at hs
      subst hs
      have h0 := hf f (by simp)
      have h1 : 0 ≤ i * piece := Int.mul_nonneg hi (by omega)
      have h2 : i * piece < f.len := by
        unfold countOf at h
        split at h
        · have h1 : i + 1 ≤ (f.len + piece - 1) / piece := by omega
          have h2 := (Int.le_ediv_iff_mul_le hp).1 h1
          rw [Int.add_mul] at h2
          omega
        · omega
      exact ⟨k, f, rfl, by simpa using hL 0 f rfl, h1, by simp only; omega, by simp only; omega⟩
    · next h =>
      exact apGo_in hp L r _ _ (by omega) (fun g hg => hf g (by simp [hg])) (fun i g hi => by
        have := hL (i + 1) g (by simpa using hi)
        rwa [show k + (i + 1) = k + 1 + i by omega] at this) s hs
theorem spans_in {l : List FileV} {piece : Int} (new : Bool) (hp : 0 < piece) (hf : ∀ f ∈ l, 0 ≤ f.len) {i : Int} (hi : 0 ≤ i) : ∀ s ∈ spansOf l piece new i, InK l s := by
  unfold spansOf
  split
  · exact apGo_in hp l l i 0 hi hf (fun i f h => by simpa using h)
  · exact rowGo_in _ _ l l 0 0 hf (fun i f h => by simpa using h)
theorem rowGo_few (lo hi : Int) : ∀ (l : List FileV) (b : Int) (k : Nat), (rowGo lo hi b k l).length ≤ l.length
  | [], _, _ => by simp [rowGo]
  | f :: r, b, k => by
    have := rowGo_few lo hi r (b + f.len) (k + 1)
    rw [rowGo, List.length_append, List.length_cons]
    split
    · simp only [List.length_cons, List.length_nil]; omega
    · simp only [List.length_nil]; omega
theorem apGo_few (piece : Int) : ∀ (l : List FileV) (i : Int) (k : Nat), (apGo piece i k l).length ≤ l.length
  | [], _, _ => by simp [apGo]
  | f :: r, i, k => by
    rw [apGo]
    split
    · simp
    · have := apGo_few piece r (i - countOf f piece) (k + 1)
      rw [List.length_cons]
      omega
theorem spans_few (l : List FileV) (piece : Int) (new : Bool) (i : Int) : (spansOf l piece new i).length ≤ l.length := by
  unfold spansOf
  split
  · exact apGo_few _ _ _ _
  · exact rowGo_few _ _ _ _ _
/-- Is the span's file a pad? -/
def padS (l : List FileV) (s : SpanV) : Bool := match l[s.file.toNat]? with
  | some f => f.pad
  | none => false
/-- A span laid behind others: joined with the last one where they touch. -/
def addJ (out : List SpanV) (s : SpanV) : List SpanV := match out.getLast? with
  | some p => if p.file = s.file ∧ p.frm + p.cnt = s.frm then out.dropLast ++ [⟨p.file, p.frm, p.cnt + s.cnt⟩] else out ++ [s]
  | none => [s]
def stepJ (l : List FileV) (out : List SpanV) (s : SpanV) : List SpanV := if padS l s then out else addJ out s
def jnOf (l : List FileV) (S : List SpanV) : List SpanV := S.foldl (stepJ l) []
/-- The spans of a run's pieces. -/
def runSp (l : List FileV) (piece : Int) (new : Bool) (fr : Int) (n : Nat) : List SpanV := (List.range n).flatMap fun j : Nat => spansOf l piece new (fr + j)
theorem run_next (l : List FileV) (piece : Int) (new : Bool) (fr : Int) (n : Nat) : runSp l piece new fr (n + 1) = runSp l piece new fr n ++ spansOf l piece new (fr + n) := by
  unfold runSp
  rw [List.range_succ, List.flatMap_append]
  simp
theorem run_few (l : List FileV) (piece : Int) (new : Bool) (fr : Int) : ∀ n, (runSp l piece new fr n).length ≤ n * l.length
  | 0 => by simp [runSp]
  | n + 1 => by
    have h1 := run_few l piece new fr n
    have h2 := spans_few l piece new (fr + n)
    rw [run_next, List.length_append, Nat.add_mul]
    omega
theorem runs_within {l : List FileV} {piece : Int} (new : Bool) (hp : 0 < piece) (hf : ∀ f ∈ l, 0 ≤ f.len) {fr : Int} (h0 : 0 ≤ fr) (n : Nat) : ∀ s ∈ runSp l piece new fr n, InK l s := by
  intro s hs
  unfold runSp at hs
  obtain ⟨j, -, hj⟩ := List.mem_flatMap.1 hs
  exact spans_in new hp hf (by omega) s hj
theorem addJ_len (out : List SpanV) (s : SpanV) : (addJ out s).length ≤ out.length + 1 ∧ 1 ≤ (addJ out s).length := by
  unfold addJ
  split
  · next p hp =>
    have : out ≠ [] := fun q => by rw [q] at hp; simp at hp
    have h1 : 0 < out.length := List.length_pos_iff.2 this
    split
    · rw [List.length_append, List.length_dropLast]; simp only [List.length_cons, List.length_nil]; omega
    · rw [List.length_append]; simp
  · simp
/-- A span within one of the parts. -/
def Held (out : List SpanV) (s : SpanV) : Prop := ∃ p ∈ out, p.file = s.file ∧ p.frm ≤ s.frm ∧ s.frm + s.cnt ≤ p.frm + p.cnt
theorem last_split {out : List SpanV} {p : SpanV} (h : out.getLast? = some p) : out = out.dropLast ++ [p] := by
  have hne : out ≠ [] := fun q => by rw [q] at h; simp at h
  rw [List.getLast?_eq_some_getLast hne] at h
  injection h with h
  rw [← h, List.dropLast_concat_getLast]
theorem addJ_held {out : List SpanV} {s x : SpanV} (hs : 0 ≤ s.cnt) (h : Held out x) : Held (addJ out s) x := by
  obtain ⟨p, hp, h1, h2, h3⟩ := h
  unfold addJ
  split
  · next q hq =>
    split
    · have e := last_split hq
      rw [e] at hp
      rcases List.mem_append.1 hp with hp | hp
      · exact ⟨p, List.mem_append.2 (.inl hp), h1, h2, h3⟩
      · simp only [List.mem_singleton] at hp
        subst hp
        exact ⟨⟨p.file, p.frm, p.cnt + s.cnt⟩, List.mem_append.2 (.inr (List.mem_singleton.2 rfl)), h1, h2, by show _ ≤ p.frm + (p.cnt + s.cnt); omega⟩
    · exact ⟨p, List.mem_append.2 (.inl hp), h1, h2, h3⟩
  · next hq =>
    rw [List.getLast?_eq_none_iff] at hq
    rw [hq] at hp
    simp at hp
theorem addJ_self {out : List SpanV} {s : SpanV} (hin : ∀ p ∈ out, 0 ≤ p.cnt) : Held (addJ out s) s := by
  unfold addJ
  split
  · next q hq =>
    split
    · next h =>
      have := hin q (by rw [last_split hq]; simp)
      exact ⟨⟨q.file, q.frm, q.cnt + s.cnt⟩, List.mem_append.2 (.inr (List.mem_singleton.2 rfl)), h.1, by show q.frm ≤ s.frm; omega, by show _ ≤ q.frm + (q.cnt + s.cnt); omega⟩
    · exact ⟨s, by simp, rfl, Int.le_refl _, Int.le_refl _⟩
  · exact ⟨s, by simp, rfl, Int.le_refl _, Int.le_refl _⟩
/-- A part: within a file that is no pad. -/
def PartOf (l : List FileV) (p : SpanV) : Prop := InK l p ∧ padS l p = false
theorem addJ_part {l : List FileV} {out : List SpanV} {s : SpanV} (h : ∀ p ∈ out, PartOf l p) (hs : InK l s) (hp : padS l s = false) : ∀ p ∈ addJ out s, PartOf l p := by
  intro p hm
  unfold addJ at hm
  split at hm
  · next q hq =>
    have hqm : q ∈ out := by rw [last_split hq]; simp
    split at hm
    · next hj =>
      rcases List.mem_append.1 hm with hm | hm
      · exact h p (List.dropLast_subset _ hm)
      · simp only [List.mem_singleton] at hm
        subst hm
        obtain ⟨⟨k, f, a1, a2, a3, a4, a5⟩, hpq⟩ := h q hqm
        obtain ⟨k', f', b1, b2, b3, b4, b5⟩ := hs
        have hk : k' = k := by have := hj.1; omega
        subst hk
        rw [a2] at b2
        injection b2 with b2
        subst b2
        exact ⟨⟨k', f, a1, a2, a3, by simp only; omega, by simp only; omega⟩, hpq⟩
    · rcases List.mem_append.1 hm with hm | hm
      · exact h p hm
      · simp only [List.mem_singleton] at hm
        subst hm
        exact ⟨hs, hp⟩
  · simp only [List.mem_singleton] at hm
    subst hm
    exact ⟨hs, hp⟩
theorem fold_parts {l : List FileV} : ∀ (S out : List SpanV), (∀ s ∈ S, InK l s) → (∀ p ∈ out, PartOf l p) →
    (∀ p ∈ S.foldl (stepJ l) out, PartOf l p) ∧ (∀ x, Held out x → Held (S.foldl (stepJ l) out) x) ∧ (∀ s ∈ S, padS l s = false → Held (S.foldl (stepJ l) out) s) ∧ (S.foldl (stepJ l) out).length ≤ out.length + S.length
  | [], out, _, ho => ⟨ho, fun _ h => h, by simp, by simp⟩
  | s :: S, out, hS, ho => by
    have hs := hS s (by simp)
    have hc : 0 ≤ s.cnt := by obtain ⟨k, f, -, -, -, q, -⟩ := hs; omega
    have hoc : ∀ p ∈ out, 0 ≤ p.cnt := fun p hp => by obtain ⟨⟨k, f, -, -, -, q, -⟩, -⟩ := ho p hp; omega
    have ho2 : ∀ p ∈ stepJ l out s, PartOf l p := by
      unfold stepJ
      split
      · exact ho
      · next h => exact addJ_part ho hs (by simpa using h)
    have hh : ∀ x, Held out x → Held (stepJ l out s) x := by
      unfold stepJ
      split
      · exact fun _ h => h
      · exact fun _ h => addJ_held hc h
    have hl : (stepJ l out s).length ≤ out.length + 1 := by
      unfold stepJ
      split
      · omega
      · exact (addJ_len out s).1
    obtain ⟨i1, i2, i3, i4⟩ := fold_parts S (stepJ l out s) (fun x hx => hS x (by simp [hx])) ho2
    refine ⟨i1, fun x hx => i2 x (hh x hx), fun x hx hp => ?_, ?_⟩
    · rcases List.mem_cons.1 hx with rfl | hx
      · refine i2 _ ?_
        unfold stepJ
        rw [hp, if_neg (by simp)]
        exact addJ_self hoc
      · exact i3 x hx hp
    · rw [List.foldl_cons, List.length_cons]
      omega
theorem jn_parts {l : List FileV} {S : List SpanV} (h : ∀ s ∈ S, InK l s) : (∀ p ∈ jnOf l S, PartOf l p) ∧ (∀ s ∈ S, padS l s = false → Held (jnOf l S) s) ∧ (jnOf l S).length ≤ S.length := by
  obtain ⟨h1, -, h3, h4⟩ := fold_parts S [] h (by simp)
  exact ⟨h1, h3, by unfold jnOf; simpa using h4⟩
theorem jn_next (l : List FileV) (S : List SpanV) (s : SpanV) : jnOf l (S ++ [s]) = stepJ l (jnOf l S) s := by
  unfold jnOf
  rw [List.foldl_append]
  rfl
end Go.Proofs.YtnhgichiedninaaGreatDoor
