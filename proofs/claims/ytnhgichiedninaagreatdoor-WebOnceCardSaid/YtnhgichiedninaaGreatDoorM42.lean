/-
  Several texts in one, in their build order. What Parse answers, told twice, is one; what Format writes of a valid list is read as it was. Plain Lean, no program. No condition. The walk of Format of package files, for every list. Conditions: the list lies as told; the library's table is as laid. The walks of the reference's Path and Format. Conditions: the lists lie as told; a path's text fits.
-/
import Derived.Test.YtnhgichiedninaaGreatDoorM41
import Derived.Test.YtnhgichiedninaaGreatDoorM36
import Derived.Test.YtnhgichiedninaaGreatDoorM4
import Derived.Deep.RegionHeld3
import Derived.Laws.Concat
import Derived.Test.YtnhgichiedninaaGreatDoorM39
namespace Go.Proofs.YtnhgichiedninaaGreatDoor
set_option linter.unusedSimpArgs false
set_option linter.unusedVariables false

def textX (x : Bool × List UInt8 × List UInt8) : List UInt8 := (if x.1 then [42] else []) ++ x.2.1 ++ [32] ++ x.2.2
theorem line_text {L : List UInt8} {x : Bool × List UInt8 × List UInt8} (h : lineP L = some x) : L = textX x ∧ x.2.1.all isDig = true ∧ canon x.2.1 = true := lineP_text (pad := x.1) (ds := x.2.1) (r := x.2.2) h
theorem files_form : ∀ (Ls : List (List UInt8)), (∀ L ∈ Ls, (lineP L).isSome = true) → ∃ xs : List (Bool × List UInt8 × List UInt8), xs.length = Ls.length ∧ filesP Ls = xs.map fileP ∧ filesR Ls = xs.map fileR ∧ Ls = xs.map textX ∧ ∀ x ∈ xs, x.2.1.all isDig = true ∧ canon x.2.1 = true
  | [], _ => ⟨[], rfl, rfl, rfl, rfl, by simp⟩
  | L :: r, h => by
    obtain ⟨xs, h0, h1, h2, h3, h4⟩ := files_form r (fun K hK => h K (by simp [hK]))
    have hL := h L (by simp)
    obtain ⟨x, hx⟩ := Option.isSome_iff_exists.1 hL
    obtain ⟨t1, t2, t3⟩ := line_text hx
    refine ⟨x :: xs, by simp [h0], ?_, ?_, by rw [List.map_cons, ← t1, ← h3], ?_⟩
    · rw [List.map_cons, ← h1]
      simp [filesP, hx]
    · rw [List.map_cons, ← h2]
      simp [filesR, hx]
    · intro y hy
      rcases List.mem_cons.1 hy with rfl | hy
      · exact ⟨t2, t3⟩
      · exact h4 y hy
theorem len_same {ds : List UInt8} (h : lenP ds ≤ 65536 ∨ lenR ds ≤ 65536) : lenP ds = lenR ds ∧ lenR ds = decVal ds := by
  unfold lenP lenR at *
  by_cases h1 : decVal ds ≤ 65536
  · rw [if_pos h1, if_pos (by omega)]
    exact ⟨rfl, rfl⟩
  · rw [if_neg h1] at h ⊢
    by_cases h2 : decVal ds ≤ 9223372036854775807
    · rw [if_pos h2] at h
      omega
    · rw [if_neg h2] at h
      omega
theorem map_same {xs : List (Bool × List UInt8 × List UInt8)} (h : ∀ x ∈ xs, lenP x.2.1 = lenR x.2.1) : xs.map fileP = xs.map fileR := List.map_congr_left fun x hx => by simp only [fileP, fileR, h x hx]
theorem valid_same {xs : List (Bool × List UInt8 × List UInt8)} (h : validOf (xs.map fileP) = true ∨ validOf (xs.map fileR) = true) : xs.map fileP = xs.map fileR ∧ ∀ x ∈ xs, lenR x.2.1 = decVal x.2.1 := by
  have key : ∀ x ∈ xs, lenP x.2.1 = lenR x.2.1 ∧ lenR x.2.1 = decVal x.2.1 := by
    intro x hx
    refine len_same ?_
    rcases h with h | h
    · exact .inl (valid_file h (fileP x) (List.mem_map_of_mem hx)).2.1
    · exact .inr (valid_file h (fileR x) (List.mem_map_of_mem hx)).2.1
  exact ⟨map_same fun x hx => (key x hx).1, fun x hx => (key x hx).2⟩
theorem fmt_textX {x : Bool × List UInt8 × List UInt8} (h1 : x.2.1.all isDig = true) (h2 : canon x.2.1 = true) (h3 : lenR x.2.1 = decVal x.2.1) : fmtLine (fileR x) = textX x ++ [10] := by
  have e : Lib.itoa (lenR x.2.1) = x.2.1 := by rw [h3, Lib.itoa_nonneg, dec_back h1 h2]
  unfold fmtLine fileR textX
  simp only [e, joinB_pathP]
/-- The reference's own test: is what is read written so? -/
theorem format_test {Ls : List (List UInt8)} (hne : Ls ≠ []) (h : ∀ L ∈ Ls, (lineP L).isSome = true) : decide (fmtOf (filesR Ls) = Ls.flatMap fun L => L ++ [10]) = validOf (filesP Ls) ∧ (validOf (filesP Ls) = true → filesR Ls = filesP Ls) := by
  obtain ⟨xs, h0, h1, h2, h3, h4⟩ := files_form Ls h
  rw [h1, h2]
  cases hv : validOf (xs.map fileP) with
  | true =>
    obtain ⟨e, hl⟩ := valid_same (.inl hv)
    refine ⟨?_, fun _ => e.symm⟩
    rw [decide_eq_true_eq, fmtOf, ← e, if_pos hv, e, h3, List.flatMap_map, List.flatMap_map]
    have key : ∀ ys : List (Bool × List UInt8 × List UInt8), (∀ x ∈ ys, x ∈ xs) → (ys.flatMap fun x => fmtLine (fileR x)) = ys.flatMap fun x => textX x ++ [10] := by
      intro ys
      induction ys with
      | nil => intro _; rfl
      | cons y ys ih =>
        intro hy
        have hy0 := hy y (by simp)
        rw [List.flatMap_cons, List.flatMap_cons, ih (fun x hx => hy x (by simp [hx])), fmt_textX (h4 y hy0).1 (h4 y hy0).2 (hl y hy0)]
    exact key xs (fun _ h => h)
  | false =>
    refine ⟨?_, fun q => by cases q⟩
    have hr : validOf (xs.map fileR) = false := by
      cases q : validOf (xs.map fileR) with
      | false => rfl
      | true => rw [(valid_same (.inr q)).1, q] at hv; cases hv
    rw [decide_eq_false_iff_not, fmtOf, hr]
    intro e
    cases Ls with
    | nil => exact hne rfl
    | cons L r => simp at e

/-! ### what is written is read -/
theorem mem_join {b : UInt8} : ∀ {p : List (List UInt8)}, b ∈ Lib.join p [47] → b = 47 ∨ ∃ x ∈ p, b ∈ x
  | [], h => by simp [Lib.join] at h
  | x :: r, h => by
    rw [Lib.join_cons, List.mem_append] at h
    rcases h with h | h
    · exact .inr ⟨x, by simp, h⟩
    · simp only [Lib.joinTail, List.mem_flatten, List.mem_map] at h
      obtain ⟨y, ⟨z, hz, rfl⟩, hy⟩ := h
      rcases List.mem_append.1 hy with q | q
      · exact .inl (by simpa using q)
      · exact .inr ⟨z, by simp [hz], q⟩
theorem part_bytes {s : ByteArray} (h : partOk s = true) : (∀ b ∈ s.data.toList, 32 ≤ b.toNat ∧ b ≠ 47) ∧ s.size ≤ 40 := by
  unfold partOk at h
  simp only [Bool.and_eq_true, decide_eq_true_eq, List.all_eq_true] at h
  obtain ⟨⟨⟨⟨h1, h2⟩, h3⟩, h4⟩, h5⟩ := h
  refine ⟨fun b hb => ?_, h3⟩
  have := h1 b hb
  simp only [badByte, Bool.not_eq_true', Bool.or_eq_false_iff, decide_eq_false_iff_not] at this
  refine ⟨by omega, fun e => ?_⟩
  subst e
  exact this.1.2 rfl
theorem bare_ok {f : FileV} (h0 : 0 ≤ f.len) (h1 : f.len ≤ 65536) (hp : f.path ≠ []) (hl : f.path.length ≤ 8) (hs : ∀ s ∈ f.path, partOk s = true) :
    (10 : UInt8) ∉ bareLine f ∧ (lineP (bareLine f)).map fileP = some f ∧ (bareLine f).length ≤ 360 := by
  obtain ⟨u, hu⟩ := Int.eq_ofNat_of_zero_le h0
  have hi : Lib.itoa f.len = Lib.decDigits u := by rw [hu, Lib.itoa_nonneg]
  obtain ⟨d1, d2, d3, -, -⟩ := dec_read u
  have hsz := itoa_size (n := f.len) (by omega) (by omega)
  have hsz2 : (Lib.itoa f.len).length ≤ 21 := by simpa [itoaB, ByteArray.size] using hsz
  refine ⟨?_, ?_, ?_⟩
  · intro q
    unfold bareLine at q
    rw [hi] at q
    simp only [List.mem_append] at q
    rcases q with ((q | q) | q) | q
    · split at q <;> simp at q
    · have := List.all_eq_true.1 d2 10 q
      simp [isDig] at this
    · simp at q
    · rcases mem_join (p := f.path.map (·.data.toList)) q with e | ⟨x, hx, hb⟩
      · cases e
      · obtain ⟨s, hs', rfl⟩ := List.mem_map.1 hx
        have := ((part_bytes (hs s hs')).1 10 hb).1
        simp at this
  · unfold bareLine
    rw [hi, lineP_mk d2 d3]
    simp only [Option.map_some, fileP, Option.some.injEq]
    rw [(lenP_dec (by omega)).1, pathP_joinB hp (fun s hs' => part_free (hs s hs')), ← hu]
  · have hj : ∀ p : List ByteArray, (∀ s ∈ p, s.size ≤ 40) → (Lib.join (p.map (·.data.toList)) [47]).length ≤ p.length * 41 := by
      intro p
      cases p with
      | nil => intro _; simp [Lib.join]
      | cons x r =>
        intro hx
        have ht : ∀ r : List ByteArray, (∀ s ∈ r, s.size ≤ 40) → (Lib.joinTail [47] (r.map (·.data.toList))).length ≤ r.length * 41 := by
          intro r
          induction r with
          | nil => intro _; simp [Lib.joinTail]
          | cons y t ih =>
            intro hy
            have h1 := ih (fun s hs => hy s (by simp [hs]))
            have h2 := hy y (by simp)
            have h3 : y.data.toList.length = y.size := by rw [Array.length_toList]; rfl
            simp only [Lib.joinTail, List.map_cons, List.flatten_cons, List.length_append, List.length_cons, List.length_nil] at *
            omega
        have h1 := ht r (fun s hs => hx s (by simp [hs]))
        have h2 := hx x (by simp)
        have h3 : x.data.toList.length = x.size := by rw [Array.length_toList]; rfl
        rw [List.map_cons, Lib.join_cons, List.length_append, List.length_cons]
        omega
    have h1 := hj f.path (fun s hs' => (part_bytes (hs s hs')).2)
    have h2 : (joinB f.path).data.toList = Lib.join (f.path.map (·.data.toList)) [47] := rfl
    unfold bareLine
    rw [h2]
    simp only [List.length_append, List.length_cons, List.length_nil]
    split
    · simp; omega
    · simp; omega
theorem read_bare : ∀ (l : List FileV), (∀ f ∈ l, (lineP (bareLine f)).map fileP = some f) → filesP (l.map bareLine) = l ∧ ∀ i, badAt (l.map bareLine) i = none
  | [], _ => ⟨rfl, fun _ => rfl⟩
  | f :: r, h => by
    obtain ⟨h1, h2⟩ := read_bare r (fun g hg => h g (by simp [hg]))
    have hf := h f (by simp)
    constructor
    · simp only [filesP, List.map_cons] at *
      rw [List.filterMap_cons, hf]
      simp only
      rw [h1]
    · intro i
      rw [List.map_cons, badAt]
      have : (lineP (bareLine f)).isSome = true := by
        cases q : lineP (bareLine f) with
        | none => rw [q] at hf; cases hf
        | some x => rfl
      rw [if_pos this]
      exact h2 _
theorem round_trip {l : List FileV} (h : validOf l = true) : parseL (fmtOf l) = l ∧ parseLine (fmtOf l) = 0 ∧ parseErr (fmtOf l) = 0 ∧ (fmtOf l).length ≤ 65536 := by
  have hv := valid_file h
  obtain ⟨v1, v2, -, -⟩ := valid_facts h
  have hb : ∀ f ∈ l, (10 : UInt8) ∉ bareLine f ∧ (lineP (bareLine f)).map fileP = some f ∧ (bareLine f).length ≤ 360 := fun f hf => by
    obtain ⟨a, b, c, d, e⟩ := hv f hf
    exact bare_ok a b c d e
  have e : fmtOf l = (l.map bareLine).flatMap fun L => L ++ [10] := by
    rw [fmtOf, if_pos h, List.flatMap_map]
    rfl
  obtain ⟨l1, l2⟩ := lines_of (l.map bareLine) (fun L hL => by obtain ⟨f, hf, rfl⟩ := List.mem_map.1 hL; exact (hb f hf).1)
  obtain ⟨r1, r2⟩ := read_bare l (fun f hf => (hb f hf).2.1)
  rw [e]
  refine ⟨?_, ?_, ?_, ?_⟩
  · rw [parseL, l1, r2, l2, r1]
    simp [h]
  · rw [parseLine, l1, r2, l2, r1]
    simp [h]
  · rw [parseErr, l1, r2, l2, r1]
    simp [h]
  · have hlen : ∀ m : List FileV, (∀ f ∈ m, (bareLine f).length ≤ 360) → ((m.map bareLine).flatMap fun L => L ++ [10]).length ≤ m.length * 361 := by
      intro m
      induction m with
      | nil => intro _; simp
      | cons f m ih =>
        intro hm
        have h1 := ih (fun g hg => hm g (by simp [hg]))
        have h2 := hm f (by simp)
        rw [List.map_cons, List.flatMap_cons, List.length_append, List.length_append, List.length_cons]
        simp only [List.length_cons, List.length_nil]
        omega
    have := hlen l (fun f hf => (hb f hf).2.2)
    omega
end Go.Proofs.YtnhgichiedninaaGreatDoor

namespace Go.Proofs.YtnhgichiedninaaGreatDoor
set_option linter.unusedSimpArgs false
set_option linter.unusedVariables false
open Go.RowKit Go.Shelf

/-- What is told of a valid list's file. -/
def GoodT (f : FileV) : Prop := 0 ≤ f.len ∧ f.len ≤ 65536 ∧ f.path.length ≤ 8 ∧ (joinB f.path).size ≤ 360 ∧ (fmtLine f).length ≤ 361
theorem good_of {l : List FileV} (h : validOf l = true) : ∀ f ∈ l, GoodT f := by
  intro f hf
  obtain ⟨a, b, c, d, e⟩ := valid_file h f hf
  obtain ⟨-, -, q⟩ := bare_ok a b c d e
  have hj : (joinB f.path).size = (joinB f.path).data.toList.length := by rw [Array.length_toList]; rfl
  refine ⟨a, b, d, ?_, ?_⟩
  · rw [hj]
    unfold bareLine at q
    simp only [List.length_append] at q
    omega
  · rw [fmt_bare, List.length_append, List.length_cons]
    simp only [List.length_nil]
    omega
theorem fmt_len : ∀ {l : List FileV}, (∀ f ∈ l, GoodT f) → (l.flatMap fmtLine).length ≤ 361 * l.length
  | [], _ => by simp
  | f :: r, h => by
    have h1 := fmt_len (l := r) (fun g hg => h g (by simp [hg]))
    have h2 := (h f (by simp)).2.2.2.2
    rw [List.flatMap_cons, List.length_append, List.length_cons]
    omega
theorem fmt_next {l : List FileV} {k : Nat} (h : k < l.length) : (l.take (k + 1)).flatMap fmtLine = (l.take k).flatMap fmtLine ++ fmtLine l[k] := by
  rw [List.take_succ_eq_append_getElem h, List.flatMap_append]
  simp
def tailLine (f : FileV) : ByteArray := itoaB f.len ++ ⟨#[32]⟩ ++ joinB f.path ++ ⟨#[10]⟩
theorem tailLine_data (f : FileV) : fmtLine f = (if f.pad then [42] else []) ++ (tailLine f).data.toList := by
  simp [fmtLine, tailLine, itoaB, List.append_assoc]
/-- What the walk of a line needs of the world. -/
structure Fm (w Q : World) (xb b0 : Nat) (pa : Option Addr) (pc : Nat) (f : FileV) (acc : List UInt8) (pv : Bool) : Prop where
  n : New w Q
  x : Blk Q xb #[.slice pa f.path.length pc, .int .i64 f.len, .bool pv] 60
  b : Bld Q b0 acc
theorem Fm.new {w Q Q' : World} {xb b0 : Nat} {pa : Option Addr} {pc : Nat} {f : FileV} {acc : List UInt8} {pv : Bool} (h : Fm w Q xb b0 pa pc f acc pv) (n : New Q Q') : Fm w Q' xb b0 pa pc f acc pv := ⟨h.n.trans n, n.blk h.x, h.b.new n⟩
theorem Fm.drew {w Q : World} {xb b0 : Nat} {pa : Option Addr} {pc : Nat} {f : FileV} {acc : List UInt8} {pv : Bool} (h : Fm w Q xb b0 pa pc f acc pv) : Fm w Q.drew xb b0 pa pc f acc pv := h.new (Mod.drew (Mod.refl _ _))
theorem Fm.wrote {w Q Q' : World} {xb b0 : Nat} {pa : Option Addr} {pc : Nat} {f : FileV} {acc acc' : List UInt8} {pv : Bool} (h : Fm w Q xb b0 pa pc f acc pv) (n : Wrote b0 Q Q') (hx : xb ≠ b0) (hb : w.heap.size ≤ b0) (b : Bld Q' b0 acc') : Fm w Q' xb b0 pa pc f acc' pv :=
  ⟨Wrote.new h.n n hb, n.blk h.x hx (by decide), b⟩
theorem Fm.cells {w Q : World} {xb b0 : Nat} {pa : Option Addr} {pc : Nat} {f : FileV} {acc : List UInt8} {pv : Bool} (h : Fm w Q xb b0 pa pc f acc pv) : Q.cell? ⟨xb, 0, none⟩ = some (.slice pa f.path.length pc) ∧ Q.cell? ⟨xb, 1, none⟩ = some (.int .i64 f.len) := ⟨h.x.cellv 0 rfl, h.x.cellv 1 rfl⟩
end Go.Proofs.YtnhgichiedninaaGreatDoor

namespace Go.Proofs.YtnhgichiedninaaGreatDoor
set_option linter.unusedSimpArgs false
set_option linter.unusedVariables false
open Go.RowKit Go.Shelf

theorem joinTail_snoc (r : List (List UInt8)) (y : List UInt8) : Lib.joinTail [47] (r ++ [y]) = Lib.joinTail [47] r ++ 47 :: y := by simp [Lib.joinTail]
theorem join_next {p : List ByteArray} {k : Nat} (h : k < p.length) : (joinB (p.take (k + 1))).data.toList = (joinB (p.take k)).data.toList ++ (if 0 < k then [47] else []) ++ p[k].data.toList := by
  have e : ∀ q : List ByteArray, (joinB q).data.toList = Lib.join (q.map (·.data.toList)) [47] := fun _ => rfl
  rw [e, e, List.take_succ_eq_append_getElem h, List.map_append]
  cases hq : p.take k with
  | nil =>
    have hk : k = 0 := by
      have : (p.take k).length = 0 := by rw [hq]; rfl
      rw [List.length_take] at this
      omega
    subst hk
    simp [Lib.join]
  | cons x r =>
    have hk : 0 < k := by
      have : (p.take k).length = r.length + 1 := by rw [hq]; rfl
      rw [List.length_take] at this
      omega
    rw [if_pos hk]
    simp only [List.map_cons, List.map_nil, List.cons_append]
    rw [Lib.join_cons, Lib.join_cons, joinTail_snoc]
    simp
theorem join_pre (p : List ByteArray) : ∀ k, (joinB (p.take k)).size ≤ (joinB p).size := by
  have hs : ∀ q : List ByteArray, (joinB q).size = (joinB q).data.toList.length := fun q => by rw [Array.length_toList]; rfl
  have step : ∀ k, (joinB (p.take k)).size ≤ (joinB (p.take (k + 1))).size := by
    intro k
    by_cases h : k < p.length
    · rw [hs, hs, join_next h]
      simp only [List.length_append]
      omega
    · rw [List.take_of_length_le (by omega), List.take_of_length_le (by omega)]
      exact Nat.le_refl _
  have up : ∀ d k, (joinB (p.take k)).size ≤ (joinB (p.take (k + d))).size := by
    intro d
    induction d with
    | zero => intro k; exact Nat.le_refl _
    | succ d ih => intro k; exact Nat.le_trans (ih k) (step (k + d))
  intro k
  by_cases h : k ≤ p.length
  · have := up (p.length - k) k
    rw [show k + (p.length - k) = p.length by omega, List.take_length] at this
    exact this
  · rw [List.take_of_length_le (by omega)]
    exact Nat.le_refl _
theorem join_part {p : List ByteArray} {k : Nat} (h : k < p.length) : (joinB (p.take k)).size + (if 0 < k then 1 else 0) + p[k].size ≤ (joinB p).size := by
  have hs : ∀ q : ByteArray, q.size = q.data.toList.length := fun q => by rw [Array.length_toList]; rfl
  have h1 := join_pre p (k + 1)
  have h2 := congrArg List.length (join_next h)
  rw [List.length_append, List.length_append, ← hs, ← hs, ← hs] at h2
  split
  · next q => rw [if_pos q] at h2; simp at h2; omega
  · next q => rw [if_neg q] at h2; simp at h2; omega
set_option maxRecDepth 100000 in
set_option maxHeartbeats 2000000 in
theorem rPath_any (a : Option Addr) (c : Nat) (p : List ByteArray) (w : World) (h : StrsAt w a c p) (hb : (joinB p).size ≤ 140737488355328) :
    Calls Tryz.prog 93 #[.slice a p.length c] w fun e w' => e = .returned (.string (joinB p)) ∧ w = w' := by
  have hr := h.room; have hc := h.cap
  unfold maxLen at hc
  have HST := hid h
  clear h
  go_enter Tryz.func93, Tryz.ntmps93
  go_wp2
  go_loop [8, 3] (fun x s => ∃ (k : Nat) (o : ByteArray), x = .int .i64 k ∧ s = .string o ∧ k ≤ p.length ∧ o.data.toList = (joinB (p.take k)).data.toList) (fun x _ => p.length - (intOf x).toNat)
  case atStart => exact ⟨0, ⟨#[]⟩, rfl, rfl, by omega, rfl⟩
  case round =>
    obtain ⟨k, o, rfl, rfl, hk, ho⟩ := hrel
    have hos : o.size = (joinB (p.take k)).size := by
      have := congrArg List.length ho
      rw [Array.length_toList, Array.length_toList] at this
      exact this
    have HO := hid ho
    clear ho
    by_cases hlt : k < p.length
    · obtain ⟨b1, o1, rfl, hb1, hc1⟩ := HST.out.get (by omega)
      have g0 := hc1 k hlt
      have HN := hid (join_next hlt)
      have hp := join_part hlt
      obtain ⟨t, ht⟩ : ∃ t, t = p[k] := ⟨_, rfl⟩
      rw [← ht] at g0 HN hp
      rw [← hos] at hp
      have hkI : (k : Int) < (p.length : Int) := by omega
      clear hc1 ht hos
      by_cases h0 : 0 < k
      · rw [if_pos h0] at HN hp
        have h0I : (0 : Int) < (k : Int) := by omega
        have hq : (⟨#[47]⟩ : ByteArray).size = 1 := rfl
        have hadd1 : ∀ w, (Op.stringOp .add o ⟨#[47]⟩).run Tryz.prog w = .ok (.string (o ++ ⟨#[47]⟩)) w := fun w => run_string_add_sum (w := w) _ _ (by omega)
        have hadd2 : ∀ w, (Op.stringOp .add (o ++ ⟨#[47]⟩) t).run Tryz.prog w = .ok (.string (o ++ ⟨#[47]⟩ ++ t)) w := fun w => run_string_add_sum (w := w) _ _ (by rw [ByteArray.size_append]; omega)
        clear hq hp
        go_wp2
        clear hadd1 hadd2
        go_round
        case rel => exact ⟨k + 1, o ++ ⟨#[47]⟩ ++ t, by simp, rfl, by omega, by rw [HN.out, ← HO.out]; simp⟩
        case measure => simp [intOf]; omega
      · rw [if_neg h0] at HN hp
        have hadd2 : ∀ w, (Op.stringOp .add o t).run Tryz.prog w = .ok (.string (o ++ t)) w := fun w => run_string_add_sum (w := w) _ _ (by omega)
        clear hp
        go_wp2
        clear hadd2
        go_round
        case rel => exact ⟨k + 1, o ++ t, by simp, rfl, by omega, by rw [HN.out, ← HO.out]; simp⟩
        case measure => simp [intOf]; omega
    · have hkl : p.take k = p := List.take_of_length_le (by omega)
      rw [hkl] at HO
      clear hos hkl
      go_wp2
      go_ret
      exact ⟨ret_str (bytes_ext HO.out), rfl⟩
/-- What the walk of a line needs of the world, without a builder. -/
structure Fq (w Q : World) (xb : Nat) (pa : Option Addr) (pc : Nat) (f : FileV) (pv : Bool) : Prop where
  n : New w Q
  x : Blk Q xb #[.slice pa f.path.length pc, .int .i64 f.len, .bool pv] 60
theorem Fq.new {w Q Q' : World} {xb : Nat} {pa : Option Addr} {pc : Nat} {f : FileV} {pv : Bool} (h : Fq w Q xb pa pc f pv) (n : New Q Q') : Fq w Q' xb pa pc f pv := ⟨h.n.trans n, n.blk h.x⟩
theorem Fq.drew {w Q : World} {xb : Nat} {pa : Option Addr} {pc : Nat} {f : FileV} {pv : Bool} (h : Fq w Q xb pa pc f pv) : Fq w Q.drew xb pa pc f pv := h.new (Mod.drew (Mod.refl _ _))
theorem Fq.cells {w Q : World} {xb : Nat} {pa : Option Addr} {pc : Nat} {f : FileV} {pv : Bool} (h : Fq w Q xb pa pc f pv) : Q.cell? ⟨xb, 0, none⟩ = some (.slice pa f.path.length pc) ∧ Q.cell? ⟨xb, 1, none⟩ = some (.int .i64 f.len) := ⟨h.x.cellv 0 rfl, h.x.cellv 1 rfl⟩
theorem add_bytes' (a b : ByteArray) : (a ++ b).data.toList = a.data.toList ++ b.data.toList := by simp
end Go.Proofs.YtnhgichiedninaaGreatDoor
