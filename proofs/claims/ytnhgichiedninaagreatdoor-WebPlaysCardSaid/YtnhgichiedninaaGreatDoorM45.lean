/-
  Several texts in one, in their build order. Numbers, paths and lines: what is written is read, and what is read was written so; the two readings of a text are one. Plain Lean, no program. No condition. What Parse answers, told twice, is one; what Format writes of a valid list is read as it was. Plain Lean, no program. No condition.
-/
import Derived.Test.YtnhgichiedninaaGreatDoorM42
import Derived.Test.YtnhgichiedninaaGreatDoorM44
namespace Go.Proofs.YtnhgichiedninaaGreatDoor
set_option linter.unusedSimpArgs false
set_option linter.unusedVariables false

theorem decFrom_ge : ∀ (ds : List UInt8) (a : Nat), a ≤ decFrom a ds
  | [], a => Nat.le_refl _
  | c :: r, a => by
    have := decFrom_ge r (a * 10 + (c.toNat - 48))
    simp only [decFrom, List.foldl_cons] at *
    omega
theorem decFrom_cons (c : UInt8) (r : List UInt8) (a : Nat) : decFrom a (c :: r) = decFrom (a * 10 + (c.toNat - 48)) r := by simp only [decFrom, List.foldl_cons]
theorem parse10 (ds : List UInt8) : ∀ (a : Nat), ds.all isDig = true → a < 18446744073709551616 → Lib.parseUint10 a ds = if decFrom a ds < 18446744073709551616 then .ok (decFrom a ds) else .range := by
  induction ds with
  | nil =>
    intro a _ ha
    have e : decFrom a [] = a := by simp only [decFrom, List.foldl_nil]
    rw [e, if_pos ha]
    simp only [Lib.parseUint10]
  | cons c r ih =>
    intro a h ha
    rw [List.all_cons, Bool.and_eq_true] at h
    obtain ⟨h1, h3⟩ := h
    simp only [isDig, Bool.and_eq_true, decide_eq_true_eq] at h1
    have hge := decFrom_ge r (a * 10 + (c.toNat - 48))
    simp only [Lib.parseUint10]
    rw [if_pos h1, decFrom_cons]
    obtain ⟨v, hv⟩ : ∃ v, v = decFrom (a * 10 + (c.toNat - 48)) r := ⟨_, rfl⟩
    have ih := ih (a * 10 + (c.toNat - 48)) h3
    rw [← hv] at ih hge ⊢
    by_cases b1 : 1844674407370955162 ≤ a
    · rw [if_pos b1, if_neg (by omega)]
    · rw [if_neg b1]
      by_cases b2 : 18446744073709551616 ≤ a * 10 + (c.toNat - 48)
      · rw [if_pos b2, if_neg (by omega)]
      · rw [if_neg b2]
        exact ih (by omega)
theorem atoi_digits {ds : List UInt8} (h : ds.all isDig = true) (hne : ds ≠ []) : Lib.atoiAll ds = if decVal ds ≤ 9223372036854775807 then .ok (decVal ds) else .range := by
  cases ds with
  | nil => exact absurd rfl hne
  | cons c r =>
    have h0 := h
    simp only [List.all_cons, Bool.and_eq_true, isDig, decide_eq_true_eq] at h
    obtain ⟨⟨h1, h2⟩, h3⟩ := h
    have hp : Lib.parseMag (c :: r) = if decVal (c :: r) < 18446744073709551616 then .ok (decVal (c :: r)) else .range := by
      rw [Lib.parseMag, if_neg (by simp)]
      exact parse10 _ 0 h0 (by omega)
    simp only [Lib.atoiAll]
    rw [if_neg (show ¬ (c.toNat = 43 ∨ c.toNat = 45) by omega), hp]
    by_cases b1 : decVal (c :: r) < 18446744073709551616
    · rw [if_pos b1]
      simp only
      by_cases b2 : decVal (c :: r) ≤ 9223372036854775807
      · rw [if_pos b2, if_neg (by omega), if_neg (by omega), if_neg (by omega)]
      · rw [if_neg b2, if_pos (by omega)]
    · rw [if_neg b1, if_neg (by omega)]
theorem decVal_snoc (ds : List UInt8) (d : UInt8) : decVal (ds ++ [d]) = decVal ds * 10 + (d.toNat - 48) := by simp [decVal, decFrom]
theorem isDig_mk {u : Nat} (h : u < 10) : isDig (UInt8.ofNat (48 + u)) = true ∧ (UInt8.ofNat (48 + u)).toNat - 48 = u := by
  have e : (UInt8.ofNat (48 + u)).toNat = 48 + u := by
    rw [UInt8.toNat_ofNat']
    omega
  constructor
  · simp [isDig, e]
    omega
  · omega
theorem dec_read (u : Nat) : decVal (Lib.decDigits u) = u ∧ (Lib.decDigits u).all isDig = true ∧ canon (Lib.decDigits u) = true ∧ (10 ≤ u → (Lib.decDigits u).head? ≠ some 48) ∧ (0 < u → (Lib.decDigits u).head? ≠ some 48) := by
  induction u using Nat.strongRecOn with
  | ind u ih =>
    by_cases h : u < 10
    · obtain ⟨i1, i2⟩ := isDig_mk h
      rw [Lib.decDigits_one h]
      refine ⟨by show 0 * 10 + ((UInt8.ofNat (48 + u)).toNat - 48) = u; omega, by rw [List.all_cons, List.all_nil, i1]; rfl, ?_, by omega, ?_⟩
      · simp only [canon, List.head?_cons, Bool.and_eq_true, Bool.or_eq_true, Bool.not_eq_true', decide_eq_true_eq, decide_eq_false_iff_not]
        refine ⟨by simp, ?_⟩
        by_cases e : UInt8.ofNat (48 + u) = 48
        · exact .inl (by rw [e])
        · exact .inr (by simpa using e)
      · intro hu e
        simp at e
        have := congrArg UInt8.toNat e
        rw [UInt8.toNat_ofNat'] at this
        simp at this
        omega
    · obtain ⟨a1, a2, a3, a4, a5⟩ := ih (u / 10) (by omega)
      obtain ⟨i1, i2⟩ := isDig_mk (show u % 10 < 10 by omega)
      have hne : Lib.decDigits (u / 10) ≠ [] := (dec_bytes _).2
      have hh : (Lib.decDigits (u / 10) ++ [UInt8.ofNat (48 + u % 10)]).head? = (Lib.decDigits (u / 10)).head? := by
        cases hq : Lib.decDigits (u / 10) with
        | nil => exact absurd hq hne
        | cons x r => rfl
      have h5 := a5 (by omega)
      rw [Lib.decDigits, dif_neg h]
      refine ⟨by rw [decVal_snoc, a1, i2]; omega, by rw [List.all_append, a2, List.all_cons, List.all_nil, i1]; rfl, ?_, fun _ => by rw [hh]; exact h5, fun _ => by rw [hh]; exact h5⟩
      simp only [canon, hh, Bool.and_eq_true, Bool.or_eq_true, Bool.not_eq_true', decide_eq_true_eq, decide_eq_false_iff_not]
      exact ⟨by simp, .inr h5⟩
theorem dig_back {d : UInt8} (h : isDig d = true) : UInt8.ofNat (48 + (d.toNat - 48)) = d := by
  simp only [isDig, Bool.and_eq_true, decide_eq_true_eq] at h
  have e : 48 + (d.toNat - 48) = d.toNat := by omega
  rw [e]
  simp
theorem dec_back_go : ∀ (n : Nat) (ds : List UInt8), ds.length = n → ds.all isDig = true → canon ds = true → Lib.decDigits (decVal ds) = ds ∧ (ds.head? ≠ some 48 → 1 ≤ decVal ds)
  | 0, ds, hl, _, hc => by
    obtain rfl : ds = [] := List.eq_nil_of_length_eq_zero hl
    simp [canon] at hc
  | 1, ds, hl, hd, hc => by
    match ds, hl with
    | [d], _ =>
      simp only [List.all_cons, List.all_nil, Bool.and_true] at hd
      have hb := hd
      simp only [isDig, Bool.and_eq_true, decide_eq_true_eq] at hb
      have e : decVal [d] = d.toNat - 48 := by simp [decVal, decFrom]
      rw [e]
      refine ⟨by rw [Lib.decDigits_one (by omega), dig_back hd], fun q => ?_⟩
      simp at q
      have : d.toNat ≠ 48 := fun x => q (by rw [← UInt8.toNat_inj]; simpa using x)
      omega
  | n + 2, ds, hl, hd, hc => by
    obtain ⟨es, d, rfl⟩ : ∃ es d, ds = es ++ [d] := by
      have hne : ds ≠ [] := by intro q; subst q; simp at hl
      exact ⟨ds.dropLast, ds.getLast hne, (List.dropLast_concat_getLast hne).symm⟩
    have hle : es.length = n + 1 := by simpa using hl
    rw [List.all_append, Bool.and_eq_true] at hd
    have hdd : isDig d = true := by simpa using hd.2
    have hne : es ≠ [] := by intro q; subst q; simp at hle
    have hh : (es ++ [d]).head? = es.head? := by
      cases es with
      | nil => exact absurd rfl hne
      | cons x r => rfl
    have h48 : es.head? ≠ some 48 := by
      simp only [canon, hh, Bool.and_eq_true, Bool.or_eq_true, Bool.not_eq_true', decide_eq_true_eq, decide_eq_false_iff_not] at hc
      rcases hc.2 with q | q
      · have := congrArg List.length q
        simp only [List.length_append, List.length_singleton, hle] at this
        omega
      · exact q
    have hce : canon es = true := by
      simp only [canon, Bool.and_eq_true, Bool.or_eq_true, Bool.not_eq_true', decide_eq_true_eq, decide_eq_false_iff_not]
      exact ⟨hne, .inr h48⟩
    obtain ⟨i1, i2⟩ := dec_back_go (n + 1) es hle hd.1 hce
    have hv := i2 h48
    have hb := hdd
    simp only [isDig, Bool.and_eq_true, decide_eq_true_eq] at hb
    rw [decVal_snoc]
    have e1 : (decVal es * 10 + (d.toNat - 48)) / 10 = decVal es := by omega
    have e2 : (decVal es * 10 + (d.toNat - 48)) % 10 = d.toNat - 48 := by omega
    refine ⟨?_, fun _ => by omega⟩
    rw [Lib.decDigits, dif_neg (by omega), e1, e2, i1, dig_back hdd]
theorem dec_back {ds : List UInt8} (hd : ds.all isDig = true) (hc : canon ds = true) : Lib.decDigits (decVal ds) = ds := (dec_back_go _ ds rfl hd hc).1

/-! ### paths -/
theorem pieces_tail : ∀ (r : List (List UInt8)) (x : List UInt8), (47 : UInt8) ∉ x → (∀ y ∈ r, (47 : UInt8) ∉ y) → pieces [] 47 (x ++ Lib.joinTail [47] r) = x :: r
  | [], x, hx, _ => by
    have e : x ++ Lib.joinTail [47] [] = x := by simp [Lib.joinTail]
    rw [e, pieces_free _ hx]
  | y :: r, x, hx, h => by
    have e : x ++ Lib.joinTail [47] (y :: r) = x ++ 47 :: (y ++ Lib.joinTail [47] r) := by simp [Lib.joinTail]
    rw [e, pieces_app _ _ hx, pieces_tail r y (h y (by simp)) (fun z hz => h z (by simp [hz]))]
theorem pieces_join {p : List (List UInt8)} (hp : p ≠ []) (h : ∀ y ∈ p, (47 : UInt8) ∉ y) : pieces [] 47 (Lib.join p [47]) = p := by
  cases p with
  | nil => exact absurd rfl hp
  | cons x r =>
    rw [Lib.join_cons, pieces_tail r x (h x (by simp)) (fun y hy => h y (by simp [hy]))]
theorem join_cons (b : UInt8) (L : List (List UInt8)) (h : L ≠ []) : Lib.join (consHead b L) [47] = b :: Lib.join L [47] := by
  cases L with
  | nil => exact absurd rfl h
  | cons x r => rw [consHead, Lib.join_cons, Lib.join_cons]; rfl
theorem join_pieces : ∀ (s : List UInt8), Lib.join (pieces [] 47 s) [47] = s
  | [] => by rw [pieces, Lib.join_one]
  | b :: l => by
    rw [pieces]
    have ih := join_pieces l
    have hne := pieces_ne [] 47 l
    split
    · next e =>
      subst e
      cases hp : pieces [] 47 l with
      | nil => exact absurd hp hne
      | cons x r =>
        rw [hp, Lib.join_cons] at ih
        rw [Lib.join_cons, ← ih]
        simp [Lib.joinTail]
    · rw [join_cons _ _ hne, ih]
theorem mkB_data (l : List UInt8) : (mkB l).data.toList = l := rfl
theorem data_mkB (s : ByteArray) : mkB s.data.toList = s := by
  apply bytes_ext
  rfl
theorem joinB_pathP (r : List UInt8) : (joinB (pathP r)).data.toList = r := by
  have e : (pathP r).map (·.data.toList) = pieces [] 47 r := by
    unfold pathP
    rw [List.map_map]
    conv => rhs; rw [← List.map_id (pieces [] 47 r)]
    rfl
  show Lib.join ((pathP r).map (·.data.toList)) [47] = r
  rw [e, join_pieces]
theorem pathP_joinB {p : List ByteArray} (hp : p ≠ []) (h : ∀ s ∈ p, (47 : UInt8) ∉ s.data.toList) : pathP (joinB p).data.toList = p := by
  have e : (joinB p).data.toList = Lib.join (p.map (·.data.toList)) [47] := rfl
  unfold pathP
  rw [e, pieces_join (by simpa using hp) (by intro y hy; obtain ⟨s, hs, rfl⟩ := List.mem_map.1 hy; exact h s hs), List.map_map]
  conv => rhs; rw [← List.map_id p]
  apply List.map_congr_left
  intro s _
  exact data_mkB s

/-! ### lines -/
theorem cutB_app {c : UInt8} (b : List UInt8) : ∀ (a : List UInt8), c ∉ a → cutB c (a ++ c :: b) = (a, b, true) := by
  intro a
  induction a with
  | nil => intro _; simp [cutB]
  | cons x a ih =>
    intro h
    have hx : x ≠ c := fun e => h (by rw [e]; exact .head _)
    rw [List.cons_append, cutB, if_neg hx, ih (fun q => h (.tail _ q))]
theorem cutB_free {c : UInt8} : ∀ (a : List UInt8), c ∉ a → cutB c a = (a, [], false) := by
  intro a
  induction a with
  | nil => intro _; rfl
  | cons x a ih =>
    intro h
    have hx : x ≠ c := fun e => h (by rw [e]; exact .head _)
    rw [cutB, if_neg hx, ih (fun q => h (.tail _ q))]
theorem lineP_text {L : List UInt8} {pad : Bool} {ds r : List UInt8} (h : lineP L = some (pad, ds, r)) : L = (if pad then [42] else []) ++ ds ++ [32] ++ r ∧ ds.all isDig = true ∧ canon ds = true := by
  unfold lineP at h
  split at h
  · next hc =>
    simp only [Option.some.injEq, Prod.mk.injEq] at h
    obtain ⟨rfl, rfl, rfl⟩ := h
    simp only [Bool.and_eq_true] at hc
    obtain ⟨⟨h1, h2⟩, h3⟩ := hc
    refine ⟨?_, h2, h3⟩
    have hrest : restOfL L = (cutB 32 (restOfL L)).1 ++ [32] ++ (cutB 32 (restOfL L)).2.1 := by
      rcases byte_form 32 (restOfL L) with q | ⟨a, b, e, q⟩
      · rw [cutB_free _ q] at h1
        cases h1
      · rw [e, cutB_app _ _ q]
        simp
    have hL : L = (if padOfL L then [42] else []) ++ restOfL L := by
      unfold restOfL padOfL
      cases L with
      | nil => simp
      | cons x t =>
        by_cases e : x = 42
        · subst e; simp
        · simp [e]
    conv => lhs; rw [hL, hrest]
    simp only [List.append_assoc]
  · cases h
theorem lineP_mk {pad : Bool} {ds r : List UInt8} (hd : ds.all isDig = true) (hc : canon ds = true) : lineP ((if pad then [42] else []) ++ ds ++ [32] ++ r) = some (pad, ds, r) := by
  have h32 : (32 : UInt8) ∉ ds := by
    intro q
    have := List.all_eq_true.1 hd 32 q
    simp [isDig] at this
  have h1 : padOfL ((if pad then [42] else []) ++ ds ++ [32] ++ r) = pad := by
    cases pad with
    | true => rfl
    | false =>
      cases ds with
      | nil => rfl
      | cons x t =>
        have := List.all_eq_true.1 hd x (by simp)
        simp [isDig] at this
        simp [padOfL]
        intro e
        subst e
        simp at this
  have h2 : restOfL ((if pad then [42] else []) ++ ds ++ [32] ++ r) = ds ++ 32 :: r := by
    unfold restOfL
    rw [h1]
    cases pad <;> simp
  unfold lineP
  rw [h1, h2, cutB_app _ _ h32]
  simp [hd, hc]
/-- A line without its end, as Format writes it. -/
def bareLine (f : FileV) : List UInt8 := (if f.pad then [42] else []) ++ Lib.itoa f.len ++ [32] ++ (joinB f.path).data.toList
theorem fmt_bare (f : FileV) : fmtLine f = bareLine f ++ [10] := rfl
theorem lenP_dec {u : Nat} (h : u ≤ 65536) : lenP (Lib.decDigits u) = u ∧ lenR (Lib.decDigits u) = u := by
  unfold lenP lenR
  rw [(dec_read u).1, if_pos (by omega), if_pos h]
  exact ⟨rfl, rfl⟩
/-- What a file of a valid list is. -/
theorem valid_file {l : List FileV} (h : validOf l = true) : ∀ f ∈ l, 0 ≤ f.len ∧ f.len ≤ 65536 ∧ f.path ≠ [] ∧ f.path.length ≤ 8 ∧ ∀ s ∈ f.path, partOk s = true := by
  have h0 := h
  unfold validOf wrongOf at h
  split at h
  · simp at h
  · rw [decide_eq_true_eq] at h
    have key : ∀ (l : List FileV) (i last : Nat) (M A : List ByteArray) (tot : Int), (goA last i M A tot l).2 = 0 → ∀ f ∈ l, badName f = false ∧ badRange f = false := by
      intro l
      induction l with
      | nil => intro i last M A tot _ f hf; simp at hf
      | cons g r ih =>
        intro i last M A tot hg f hf
        unfold goA at hg
        split at hg
        · next e he =>
          exfalso
          unfold errA at he
          repeat' split at he
          all_goals first | (simp at he; subst he; simp at hg) | (cases he)
        · next he =>
          have hb : badName g = false ∧ badRange g = false := by
            unfold errA at he
            have hn : badName g = false := by
              cases hq : badName g with
              | false => rfl
              | true => rw [hq] at he; simp at he
            refine ⟨hn, ?_⟩
            cases hq : badRange g with
            | false => rfl
            | true => rw [hn, hq] at he; simp at he
          rcases List.mem_cons.1 hf with rfl | hf
          · exact hb
          · exact ih _ _ _ _ _ hg f hf
    intro f hf
    obtain ⟨h1, h2⟩ := key l _ _ _ _ _ h f hf
    simp only [badName, Bool.or_eq_false_iff, Bool.not_eq_false'] at h1
    simp only [badRange, Bool.or_eq_false_iff, decide_eq_false_iff_not] at h2
    obtain ⟨n1, n2, n3⟩ := (named_iff f).1 h1.1.1
    refine ⟨by omega, by omega, by intro q; rw [q] at n1; simp at n1, n2, n3⟩
end Go.Proofs.YtnhgichiedninaaGreatDoor

namespace Go.Proofs.YtnhgichiedninaaGreatDoor
set_option linter.unusedSimpArgs false
set_option linter.unusedVariables false

def textX (x : Bool × List UInt8 × List UInt8) : List UInt8 := (if x.1 then [42] else []) ++ x.2.1 ++ [32] ++ x.2.2
theorem line_text {L : List UInt8} {x : Bool × List UInt8 × List UInt8} (h : lineP L = some x) : L = textX x ∧ x.2.1.all isDig = true ∧ canon x.2.1 = true := lineP_text (pad := x.1) (ds := x.2.1) (r := x.2.2) h
theorem files_form : ∀ (Ls : List (List UInt8)), (∀ L ∈ Ls, (lineP L).isSome = true) → ∃ xs : List (Bool × List UInt8 × List UInt8), xs.length = Ls.length ∧ filesP Ls = xs.map fileP ∧ filesR Ls = xs.map fileR ∧ Ls = xs.map textX ∧ ∀ x ∈ xs, x.2.1.all isDig = true ∧ canon x.2.1 = true
  | [], _ => ⟨[], rfl, rfl, rfl, rfl, by simp⟩
  | L :: r, h => by
    obtain ⟨xs, h0, h1, h2, h3, h4⟩ := files_form r (fun K hK => h K (by simp [hK]))
    have hL := h L (by simp)
    obtain ⟨x, hx⟩ := Option.isSome_iff_exists.1 hL
    obtain ⟨t1, t2, t3⟩ := line_text hx
    refine ⟨x :: xs, by simp [h0], ?_, ?_, by rw [List.map_cons, ← t1, ← h3], ?_⟩
    · rw [List.map_cons, ← h1]
      simp [filesP, hx]
    · rw [List.map_cons, ← h2]
      simp [filesR, hx]
    · intro y hy
      rcases List.mem_cons.1 hy with rfl | hy
      · exact ⟨t2, t3⟩
      · exact h4 y hy
theorem len_same {ds : List UInt8} (h : lenP ds ≤ 65536 ∨ lenR ds ≤ 65536) : lenP ds = lenR ds ∧ lenR ds = decVal ds := by
  unfold lenP lenR at *
  by_cases h1 : decVal ds ≤ 65536
  · rw [if_pos h1, if_pos (by omega)]
    exact ⟨rfl, rfl⟩
  · rw [if_neg h1] at h ⊢
    by_cases h2 : decVal ds ≤ 9223372036854775807
    · rw [if_pos h2] at h
      omega
    · rw [if_neg h2] at h
      omega
theorem map_same {xs : List (Bool × List UInt8 × List UInt8)} (h : ∀ x ∈ xs, lenP x.2.1 = lenR x.2.1) : xs.map fileP = xs.map fileR := List.map_congr_left fun x hx => by simp only [fileP, fileR, h x hx]
theorem valid_same {xs : List (Bool × List UInt8 × List UInt8)} (h : validOf (xs.map fileP) = true ∨ validOf (xs.map fileR) = true) : xs.map fileP = xs.map fileR ∧ ∀ x ∈ xs, lenR x.2.1 = decVal x.2.1 := by
  have key : ∀ x ∈ xs, lenP x.2.1 = lenR x.2.1 ∧ lenR x.2.1 = decVal x.2.1 := by
    intro x hx
    refine len_same ?_
    rcases h with h | h
    · exact .inl (valid_file h (fileP x) (List.mem_map_of_mem hx)).2.1
    · exact .inr (valid_file h (fileR x) (List.mem_map_of_mem hx)).2.1
  exact ⟨map_same fun x hx => (key x hx).1, fun x hx => (key x hx).2⟩
theorem fmt_textX {x : Bool × List UInt8 × List UInt8} (h1 : x.2.1.all isDig = true) (h2 : canon x.2.1 = true) (h3 : lenR x.2.1 = decVal x.2.1) : fmtLine (fileR x) = textX x ++ [10] := by
  have e : Lib.itoa (lenR x.2.1) = x.2.1 := by rw [h3, Lib.itoa_nonneg, dec_back h1 h2]
  unfold fmtLine fileR textX
  simp only [e, joinB_pathP]
/-- The reference's own test: is what is read written so? -/
theorem format_test {Ls : List (List UInt8)} (hne : Ls ≠ []) (h : ∀ L ∈ Ls, (lineP L).isSome = true) : decide (fmtOf (filesR Ls) = Ls.flatMap fun L => L ++ [10]) = validOf (filesP Ls) ∧ (validOf (filesP Ls) = true → filesR Ls = filesP Ls) := by
  obtain ⟨xs, h0, h1, h2, h3, h4⟩ := files_form Ls h
  rw [h1, h2]
  cases hv : validOf (xs.map fileP) with
  | true =>
    obtain ⟨e, hl⟩ := valid_same (.inl hv)
    refine ⟨?_, fun _ => e.symm⟩
    rw [decide_eq_true_eq, fmtOf, ← e, if_pos hv, e, h3, List.flatMap_map, List.flatMap_map]
    have key : ∀ ys : List (Bool × List UInt8 × List UInt8), (∀ x ∈ ys, x ∈ xs) → (ys.flatMap fun x => fmtLine (fileR x)) = ys.flatMap fun x => textX x ++ [10] := by
      intro ys
      induction ys with
      | nil => intro _; rfl
      | cons y ys ih =>
        intro hy
        have hy0 := hy y (by simp)
        rw [List.flatMap_cons, List.flatMap_cons, ih (fun x hx => hy x (by simp [hx])), fmt_textX (h4 y hy0).1 (h4 y hy0).2 (hl y hy0)]
    exact key xs (fun _ h => h)
  | false =>
    refine ⟨?_, fun q => by cases q⟩
    have hr : validOf (xs.map fileR) = false := by
      cases q : validOf (xs.map fileR) with
      | false => rfl
      | true => rw [(valid_same (.inr q)).1, q] at hv; cases hv
    rw [decide_eq_false_iff_not, fmtOf, hr]
    intro e
    cases Ls with
    | nil => exact hne rfl
    | cons L r => simp at e

/-! ### what is written is read -/
theorem mem_join {b : UInt8} : ∀ {p : List (List UInt8)}, b ∈ Lib.join p [47] → b = 47 ∨ ∃ x ∈ p, b ∈ x
  | [], h => by simp [Lib.join] at h
  | x :: r, h => by
    rw [Lib.join_cons, List.mem_append] at h
    rcases h with h | h
    · exact .inr ⟨x, by simp, h⟩
    · simp only [Lib.joinTail, List.mem_flatten, List.mem_map] at h
      obtain ⟨y, ⟨z, hz, rfl⟩, hy⟩ := h
      rcases List.mem_append.1 hy with q | q
      · exact .inl (by simpa using q)
      · exact .inr ⟨z, by simp [hz], q⟩
theorem part_bytes {s : ByteArray} (h : partOk s = true) : (∀ b ∈ s.data.toList, 32 ≤ b.toNat ∧ b ≠ 47) ∧ s.size ≤ 40 := by
  unfold partOk at h
  simp only [Bool.and_eq_true, decide_eq_true_eq, List.all_eq_true] at h
  obtain ⟨⟨⟨⟨h1, h2⟩, h3⟩, h4⟩, h5⟩ := h
  refine ⟨fun b hb => ?_, h3⟩
  have := h1 b hb
  simp only [badByte, Bool.not_eq_true', Bool.or_eq_false_iff, decide_eq_false_iff_not] at this
  refine ⟨by omega, fun e => ?_⟩
  subst e
  exact this.1.2 rfl
theorem bare_ok {f : FileV} (h0 : 0 ≤ f.len) (h1 : f.len ≤ 65536) (hp : f.path ≠ []) (hl : f.path.length ≤ 8) (hs : ∀ s ∈ f.path, partOk s = true) :
    (10 : UInt8) ∉ bareLine f ∧ (lineP (bareLine f)).map fileP = some f ∧ (bareLine f).length ≤ 360 := by
  obtain ⟨u, hu⟩ := Int.eq_ofNat_of_zero_le h0
  have hi : Lib.itoa f.len = Lib.decDigits u := by rw [hu, Lib.itoa_nonneg]
  obtain ⟨d1, d2, d3, -, -⟩ := dec_read u
  have hsz := itoa_size (n := f.len) (by omega) (by omega)
  have hsz2 : (Lib.itoa f.len).length ≤ 21 := by simpa [itoaB, ByteArray.size] using hsz
  refine ⟨?_, ?_, ?_⟩
  · intro q
    unfold bareLine at q
    rw [hi] at q
    simp only [List.mem_append] at q
    rcases q with ((q | q) | q) | q
    · split at q <;> simp at q
    · have := List.all_eq_true.1 d2 10 q
      simp [isDig] at this
    · simp at q
    · rcases mem_join (p := f.path.map (·.data.toList)) q with e | ⟨x, hx, hb⟩
      · cases e
      · obtain ⟨s, hs', rfl⟩ := List.mem_map.1 hx
        have := ((part_bytes (hs s hs')).1 10 hb).1
        simp at this
  · unfold bareLine
    rw [hi, lineP_mk d2 d3]
    simp only [Option.map_some, fileP, Option.some.injEq]
    rw [(lenP_dec (by omega)).1, pathP_joinB hp (fun s hs' => part_free (hs s hs')), ← hu]
  · have hj : ∀ p : List ByteArray, (∀ s ∈ p, s.size ≤ 40) → (Lib.join (p.map (·.data.toList)) [47]).length ≤ p.length * 41 := by
      intro p
      cases p with
      | nil => intro _; simp [Lib.join]
      | cons x r =>
        intro hx
        have ht : ∀ r : List ByteArray, (∀ s ∈ r, s.size ≤ 40) → (Lib.joinTail [47] (r.map (·.data.toList))).length ≤ r.length * 41 := by
          intro r
          induction r with
          | nil => intro _; simp [Lib.joinTail]
          | cons y t ih =>
            intro hy
            have h1 := ih (fun s hs => hy s (by simp [hs]))
            have h2 := hy y (by simp)
            have h3 : y.data.toList.length = y.size := by rw [Array.length_toList]; rfl
            simp only [Lib.joinTail, List.map_cons, List.flatten_cons, List.length_append, List.length_cons, List.length_nil] at *
            omega
        have h1 := ht r (fun s hs => hx s (by simp [hs]))
        have h2 := hx x (by simp)
        have h3 : x.data.toList.length = x.size := by rw [Array.length_toList]; rfl
        rw [List.map_cons, Lib.join_cons, List.length_append, List.length_cons]
        omega
    have h1 := hj f.path (fun s hs' => (part_bytes (hs s hs')).2)
    have h2 : (joinB f.path).data.toList = Lib.join (f.path.map (·.data.toList)) [47] := rfl
    unfold bareLine
    rw [h2]
    simp only [List.length_append, List.length_cons, List.length_nil]
    split
    · simp; omega
    · simp; omega
theorem read_bare : ∀ (l : List FileV), (∀ f ∈ l, (lineP (bareLine f)).map fileP = some f) → filesP (l.map bareLine) = l ∧ ∀ i, badAt (l.map bareLine) i = none
  | [], _ => ⟨rfl, fun _ => rfl⟩
  | f :: r, h => by
    obtain ⟨h1, h2⟩ := read_bare r (fun g hg => h g (by simp [hg]))
    have hf := h f (by simp)
    constructor
    · simp only [filesP, List.map_cons] at *
      rw [List.filterMap_cons, hf]
      simp only
      rw [h1]
    · intro i
      rw [List.map_cons, badAt]
      have : (lineP (bareLine f)).isSome = true := by
        cases q : lineP (bareLine f) with
        | none => rw [q] at hf; cases hf
        | some x => rfl
      rw [if_pos this]
      exact h2 _
theorem round_trip {l : List FileV} (h : validOf l = true) : parseL (fmtOf l) = l ∧ parseLine (fmtOf l) = 0 ∧ parseErr (fmtOf l) = 0 ∧ (fmtOf l).length ≤ 65536 := by
  have hv := valid_file h
  obtain ⟨v1, v2, -, -⟩ := valid_facts h
  have hb : ∀ f ∈ l, (10 : UInt8) ∉ bareLine f ∧ (lineP (bareLine f)).map fileP = some f ∧ (bareLine f).length ≤ 360 := fun f hf => by
    obtain ⟨a, b, c, d, e⟩ := hv f hf
    exact bare_ok a b c d e
  have e : fmtOf l = (l.map bareLine).flatMap fun L => L ++ [10] := by
    rw [fmtOf, if_pos h, List.flatMap_map]
    rfl
  obtain ⟨l1, l2⟩ := lines_of (l.map bareLine) (fun L hL => by obtain ⟨f, hf, rfl⟩ := List.mem_map.1 hL; exact (hb f hf).1)
  obtain ⟨r1, r2⟩ := read_bare l (fun f hf => (hb f hf).2.1)
  rw [e]
  refine ⟨?_, ?_, ?_, ?_⟩
  · rw [parseL, l1, r2, l2, r1]
    simp [h]
  · rw [parseLine, l1, r2, l2, r1]
    simp [h]
  · rw [parseErr, l1, r2, l2, r1]
    simp [h]
  · have hlen : ∀ m : List FileV, (∀ f ∈ m, (bareLine f).length ≤ 360) → ((m.map bareLine).flatMap fun L => L ++ [10]).length ≤ m.length * 361 := by
      intro m
      induction m with
      | nil => intro _; simp
      | cons f m ih =>
        intro hm
        have h1 := ih (fun g hg => hm g (by simp [hg]))
        have h2 := hm f (by simp)
        rw [List.map_cons, List.flatMap_cons, List.length_append, List.length_append, List.length_cons]
        simp only [List.length_cons, List.length_nil]
        omega
    have := hlen l (fun f hf => (hb f hf).2.2)
    omega
end Go.Proofs.YtnhgichiedninaaGreatDoor
