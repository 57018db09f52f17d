/-
  Several texts in one, in their build order. Numbers, paths and lines: what is written is read, and what is read was written so; the two readings of a text are one. Plain Lean, no program. No condition.
-/
import Derived.Test.YtnhgichiedninaaGreatDoorM38
import Derived.Test.YtnhgichiedninaaGreatDoorM40
namespace Go.Proofs.YtnhgichiedninaaGreatDoor
set_option linter.unusedSimpArgs false
set_option linter.unusedVariables false

theorem decFrom_ge : ∀ (ds : List UInt8) (a : Nat), a ≤ decFrom a ds
  | [], a => Nat.le_refl _
  | c :: r, a => by
    have := decFrom_ge r (a * 10 + (c.toNat - 48))
    simp only [decFrom, List.foldl_cons] at *
    omega
theorem decFrom_cons (c : UInt8) (r : List UInt8) (a : Nat) : decFrom a (c :: r) = decFrom (a * 10 + (c.toNat - 48)) r := by simp only [decFrom, List.foldl_cons]
theorem parse10 (ds : List UInt8) : ∀ (a : Nat), ds.all isDig = true → a < 18446744073709551616 → Lib.parseUint10 a ds = if decFrom a ds < 18446744073709551616 then .ok (decFrom a ds) else .range := by
  induction ds with
  | nil =>
    intro a _ ha
    have e : decFrom a [] = a := by simp only [decFrom, List.foldl_nil]
    rw [e, if_pos ha]
    simp only [Lib.parseUint10]
  | cons c r ih =>
    intro a h ha
    rw [List.all_cons, Bool.and_eq_true] at h
    obtain ⟨h1, h3⟩ := h
    simp only [isDig, Bool.and_eq_true, decide_eq_true_eq] at h1
    have hge := decFrom_ge r (a * 10 + (c.toNat - 48))
    simp only [Lib.parseUint10]
    rw [if_pos h1, decFrom_cons]
    obtain ⟨v, hv⟩ : ∃ v, v = decFrom (a * 10 + (c.toNat - 48)) r := ⟨_, rfl⟩
    have ih := ih (a * 10 + (c.toNat - 48)) h3
    rw [← hv] at ih hge ⊢
    by_cases b1 : 1844674407370955162 ≤ a
    · rw [if_pos b1, if_neg (by omega)]
    · rw [if_neg b1]
      by_cases b2 : 18446744073709551616 ≤ a * 10 + (c.toNat - 48)
      · rw [if_pos b2, if_neg (by omega)]
      · rw [if_neg b2]
        exact ih (by omega)
theorem atoi_digits {ds : List UInt8} (h : ds.all isDig = true) (hne : ds ≠ []) : Lib.atoiAll ds = if decVal ds ≤ 9223372036854775807 then .ok (decVal ds) else .range := by
  cases ds with
  | nil => exact absurd rfl hne
  | cons c r =>
    have h0 := h
    simp only [List.all_cons, Bool.and_eq_true, isDig, decide_eq_true_eq] at h
    obtain ⟨⟨h1, h2⟩, h3⟩ := h
    have hp : Lib.parseMag (c :: r) = if decVal (c :: r) < 18446744073709551616 then .ok (decVal (c :: r)) else .range := by
      rw [Lib.parseMag, if_neg (by simp)]
      exact parse10 _ 0 h0 (by omega)
    simp only [Lib.atoiAll]
    rw [if_neg (show ¬ (c.toNat = 43 ∨ c.toNat = 45) by omega), hp]
    by_cases b1 : decVal (c :: r) < 18446744073709551616
    · rw [if_pos b1]
      simp only
      by_cases b2 : decVal (c :: r) ≤ 9223372036854775807
      · rw [if_pos b2, if_neg (by omega), if_neg (by omega), if_neg (by omega)]
      · rw [if_neg b2, if_pos (by omega)]
    · rw [if_neg b1, if_neg (by omega)]
theorem decVal_snoc (ds : List UInt8) (d : UInt8) : decVal (ds ++ [d]) = decVal ds * 10 + (d.toNat - 48) := by simp [decVal, decFrom]
theorem isDig_mk {u : Nat} (h : u < 10) : isDig (UInt8.ofNat (48 + u)) = true ∧ (UInt8.ofNat (48 + u)).toNat - 48 = u := by
  have e : (UInt8.ofNat (48 + u)).toNat = 48 + u := by
    rw [UInt8.toNat_ofNat']
    omega
  constructor
  · simp [isDig, e]
    omega
  · omega
theorem dec_read (u : Nat) : decVal (Lib.decDigits u) = u ∧ (Lib.decDigits u).all isDig = true ∧ canon (Lib.decDigits u) = true ∧ (10 ≤ u → (Lib.decDigits u).head? ≠ some 48) ∧ (0 < u → (Lib.decDigits u).head? ≠ some 48) := by
  induction u using Nat.strongRecOn with
  | ind u ih =>
    by_cases h : u < 10
    · obtain ⟨i1, i2⟩ := isDig_mk h
      rw [Lib.decDigits_one h]
      refine ⟨by show 0 * 10 + ((UInt8.ofNat (48 + u)).toNat - 48) = u; omega, by rw [List.all_cons, List.all_nil, i1]; rfl, ?_, by omega, ?_⟩
      · simp only [canon, List.head?_cons, Bool.and_eq_true, Bool.or_eq_true, Bool.not_eq_true', decide_eq_true_eq, decide_eq_false_iff_not]
        refine ⟨by simp, ?_⟩
        by_cases e : UInt8.ofNat (48 + u) = 48
        · exact .inl (by rw [e])
        · exact .inr (by simpa using e)
      · intro hu e
        simp at e
        have := congrArg UInt8.toNat e
        rw [UInt8.toNat_ofNat'] at this
        simp at this
        omega
    · obtain ⟨a1, a2, a3, a4, a5⟩ := ih (u / 10) (by omega)
      obtain ⟨i1, i2⟩ := isDig_mk (show u % 10 < 10 by omega)
      have hne : Lib.decDigits (u / 10) ≠ [] := (dec_bytes _).2
      have hh : (Lib.decDigits (u / 10) ++ [UInt8.ofNat (48 + u % 10)]).head? = (Lib.decDigits (u / 10)).head? := by
        cases hq : Lib.decDigits (u / 10) with
        | nil => exact absurd hq hne
        | cons x r => rfl
      have h5 := a5 (by omega)
      rw [Lib.decDigits, dif_neg h]
      refine ⟨by rw [decVal_snoc, a1, i2]; omega, by rw [List.all_append, a2, List.all_cons, List.all_nil, i1]; rfl, ?_, fun _ => by rw [hh]; exact h5, fun _ => by rw [hh]; exact h5⟩
      simp only [canon, hh, Bool.and_eq_true, Bool.or_eq_true, Bool.not_eq_true', decide_eq_true_eq, decide_eq_false_iff_not]
      exact ⟨by simp, .inr h5⟩
theorem dig_back {d : UInt8} (h : isDig d = true) : UInt8.ofNat (48 + (d.toNat - 48)) = d := by
  simp only [isDig, Bool.and_eq_true, decide_eq_true_eq] at h
  have e : 48 + (d.toNat - 48) = d.toNat := by omega
  rw [e]
  simp
theorem dec_back_go : ∀ (n : Nat) (ds : List UInt8), ds.length = n → ds.all isDig = true → canon ds = true → Lib.decDigits (decVal ds) = ds ∧ (ds.head? ≠ some 48 → 1 ≤ decVal ds)
  | 0, ds, hl, _, hc => by
    obtain rfl : ds = [] := List.eq_nil_of_length_eq_zero hl
    simp [canon] at hc
  | 1, ds, hl, hd, hc => by
    match ds, hl with
    | [d], _ =>
      simp only [List.all_cons, List.all_nil, Bool.and_true] at hd
      have hb := hd
      simp only [isDig, Bool.and_eq_true, decide_eq_true_eq] at hb
      have e : decVal [d] = d.toNat - 48 := by simp [decVal, decFrom]
      rw [e]
      refine ⟨by rw [Lib.decDigits_one (by omega), dig_back hd], fun q => ?_⟩
      simp at q
      have : d.toNat ≠ 48 := fun x => q (by rw [← UInt8.toNat_inj]; simpa using x)
      omega
  | n + 2, ds, hl, hd, hc => by
    obtain ⟨es, d, rfl⟩ : ∃ es d, ds = es ++ [d] := by
      have hne : ds ≠ [] := by intro q; subst q; simp at hl
      exact ⟨ds.dropLast, ds.getLast hne, (List.dropLast_concat_getLast hne).symm⟩
    have hle : es.length = n + 1 := by simpa using hl
    rw [List.all_append, Bool.and_eq_true] at hd
    have hdd : isDig d = true := by simpa using hd.2
    have hne : es ≠ [] := by intro q; subst q; simp at hle
    have hh : (es ++ [d]).head? = es.head? := by
      cases es with
      | nil => exact absurd rfl hne
      | cons x r => rfl
    have h48 : es.head? ≠ some 48 := by
      simp only [canon, hh, Bool.and_eq_true, Bool.or_eq_true, Bool.not_eq_true', decide_eq_true_eq, decide_eq_false_iff_not] at hc
      rcases hc.2 with q | q
      · have := congrArg List.length q
        simp only [List.length_append, List.length_singleton, hle] at this
        omega
      · exact q
    have hce : canon es = true := by
      simp only [canon, Bool.and_eq_true, Bool.or_eq_true, Bool.not_eq_true', decide_eq_true_eq, decide_eq_false_iff_not]
      exact ⟨hne, .inr h48⟩
    obtain ⟨i1, i2⟩ := dec_back_go (n + 1) es hle hd.1 hce
    have hv := i2 h48
    have hb := hdd
    simp only [isDig, Bool.and_eq_true, decide_eq_true_eq] at hb
    rw [decVal_snoc]
    have e1 : (decVal es * 10 + (d.toNat - 48)) / 10 = decVal es := by omega
    have e2 : (decVal es * 10 + (d.toNat - 48)) % 10 = d.toNat - 48 := by omega
    refine ⟨?_, fun _ => by omega⟩
    rw [Lib.decDigits, dif_neg (by omega), e1, e2, i1, dig_back hdd]
theorem dec_back {ds : List UInt8} (hd : ds.all isDig = true) (hc : canon ds = true) : Lib.decDigits (decVal ds) = ds := (dec_back_go _ ds rfl hd hc).1

/-! ### paths -/
theorem pieces_tail : ∀ (r : List (List UInt8)) (x : List UInt8), (47 : UInt8) ∉ x → (∀ y ∈ r, (47 : UInt8) ∉ y) → pieces [] 47 (x ++ Lib.joinTail [47] r) = x :: r
  | [], x, hx, _ => by
    have e : x ++ Lib.joinTail [47] [] = x := by simp [Lib.joinTail]
    rw [e, pieces_free _ hx]
  | y :: r, x, hx, h => by
    have e : x ++ Lib.joinTail [47] (y :: r) = x ++ 47 :: (y ++ Lib.joinTail [47] r) := by simp [Lib.joinTail]
    rw [e, pieces_app _ _ hx, pieces_tail r y (h y (by simp)) (fun z hz => h z (by simp [hz]))]
theorem pieces_join {p : List (List UInt8)} (hp : p ≠ []) (h : ∀ y ∈ p, (47 : UInt8) ∉ y) : pieces [] 47 (Lib.join p [47]) = p := by
  cases p with
  | nil => exact absurd rfl hp
  | cons x r =>
    rw [Lib.join_cons, pieces_tail r x (h x (by simp)) (fun y hy => h y (by simp [hy]))]
theorem join_cons (b : UInt8) (L : List (List UInt8)) (h : L ≠ []) : Lib.join (consHead b L) [47] = b :: Lib.join L [47] := by
  cases L with
  | nil => exact absurd rfl h
  | cons x r => rw [consHead, Lib.join_cons, Lib.join_cons]; rfl
theorem join_pieces : ∀ (s : List UInt8), Lib.join (pieces [] 47 s) [47] = s
  | [] => by rw [pieces, Lib.join_one]
  | b :: l => by
    rw [pieces]
    have ih := join_pieces l
    have hne := pieces_ne [] 47 l
    split
    · next e =>
      subst e
      cases hp : pieces [] 47 l with
      | nil => exact absurd hp hne
      | cons x r =>
        rw [hp, Lib.join_cons] at ih
        rw [Lib.join_cons, ← ih]
        simp [Lib.joinTail]
    · rw [join_cons _ _ hne, ih]
theorem mkB_data (l : List UInt8) : (mkB l).data.toList = l := rfl
theorem data_mkB (s : ByteArray) : mkB s.data.toList = s := by
  apply bytes_ext
  rfl
theorem joinB_pathP (r : List UInt8) : (joinB (pathP r)).data.toList = r := by
  have e : (pathP r).map (·.data.toList) = pieces [] 47 r := by
    unfold pathP
    rw [List.map_map]
    conv => rhs; rw [← List.map_id (pieces [] 47 r)]
    rfl
  show Lib.join ((pathP r).map (·.data.toList)) [47] = r
  rw [e, join_pieces]
theorem pathP_joinB {p : List ByteArray} (hp : p ≠ []) (h : ∀ s ∈ p, (47 : UInt8) ∉ s.data.toList) : pathP (joinB p).data.toList = p := by
  have e : (joinB p).data.toList = Lib.join (p.map (·.data.toList)) [47] := rfl
  unfold pathP
  rw [e, pieces_join (by simpa using hp) (by intro y hy; obtain ⟨s, hs, rfl⟩ := List.mem_map.1 hy; exact h s hs), List.map_map]
  conv => rhs; rw [← List.map_id p]
  apply List.map_congr_left
  intro s _
  exact data_mkB s

/-! ### lines -/
theorem cutB_app {c : UInt8} (b : List UInt8) : ∀ (a : List UInt8), c ∉ a → cutB c (a ++ c :: b) = (a, b, true) := by
  intro a
  induction a with
  | nil => intro _; simp [cutB]
  | cons x a ih =>
    intro h
    have hx : x ≠ c := fun e => h (by rw [e]; exact .head _)
    rw [List.cons_append, cutB, if_neg hx, ih (fun q => h (.tail _ q))]
theorem cutB_free {c : UInt8} : ∀ (a : List UInt8), c ∉ a → cutB c a = (a, [], false) := by
  intro a
  induction a with
  | nil => intro _; rfl
  | cons x a ih =>
    intro h
    have hx : x ≠ c := fun e => h (by rw [e]; exact .head _)
    rw [cutB, if_neg hx, ih (fun q => h (.tail _ q))]
theorem lineP_text {L : List UInt8} {pad : Bool} {ds r : List UInt8} (h : lineP L = some (pad, ds, r)) : L = (if pad then [42] else []) ++ ds ++ [32] ++ r ∧ ds.all isDig = true ∧ canon ds = true := by
  unfold lineP at h
  split at h
  · next hc =>
    simp only [Option.some.injEq, Prod.mk.injEq] at h
    obtain ⟨rfl, rfl, rfl⟩ := h
    simp only [Bool.and_eq_true] at hc
    obtain ⟨⟨h1, h2⟩, h3⟩ := hc
    refine ⟨?_, h2, h3⟩
    have hrest : restOfL L = (cutB 32 (restOfL L)).1 ++ [32] ++ (cutB 32 (restOfL L)).2.1 := by
      rcases byte_form 32 (restOfL L) with q | ⟨a, b, e, q⟩
      · rw [cutB_free _ q] at h1
        cases h1
      · rw [e, cutB_app _ _ q]
        simp
    have hL : L = (if padOfL L then [42] else []) ++ restOfL L := by
      unfold restOfL padOfL
      cases L with
      | nil => simp
      | cons x t =>
        by_cases e : x = 42
        · subst e; simp
        · simp [e]
    conv => lhs; rw [hL, hrest]
    simp only [List.append_assoc]
  · cases h
theorem lineP_mk {pad : Bool} {ds r : List UInt8} (hd : ds.all isDig = true) (hc : canon ds = true) : lineP ((if pad then [42] else []) ++ ds ++ [32] ++ r) = some (pad, ds, r) := by
  have h32 : (32 : UInt8) ∉ ds := by
    intro q
    have := List.all_eq_true.1 hd 32 q
    simp [isDig] at this
  have h1 : padOfL ((if pad then [42] else []) ++ ds ++ [32] ++ r) = pad := by
    cases pad with
    | true => rfl
    | false =>
      cases ds with
      | nil => rfl
      | cons x t =>
        have := List.all_eq_true.1 hd x (by simp)
        simp [isDig] at this
        simp [padOfL]
        intro e
        subst e
        simp at this
  have h2 : restOfL ((if pad then [42] else []) ++ ds ++ [32] ++ r) = ds ++ 32 :: r := by
    unfold restOfL
    rw [h1]
    cases pad <;> simp
  unfold lineP
  rw [h1, h2, cutB_app _ _ h32]
  simp [hd, hc]
/-- A line without its end, as Format writes it. -/
def bareLine (f : FileV) : List UInt8 := (if f.pad then [42] else []) ++ Lib.itoa f.len ++ [32] ++ (joinB f.path).data.toList
theorem fmt_bare (f : FileV) : fmtLine f = bareLine f ++ [10] := rfl
theorem lenP_dec {u : Nat} (h : u ≤ 65536) : lenP (Lib.decDigits u) = u ∧ lenR (Lib.decDigits u) = u := by
  unfold lenP lenR
  rw [(dec_read u).1, if_pos (by omega), if_pos h]
  exact ⟨rfl, rfl⟩
/-- What a file of a valid list is. -/
theorem valid_file {l : List FileV} (h : validOf l = true) : ∀ f ∈ l, 0 ≤ f.len ∧ f.len ≤ 65536 ∧ f.path ≠ [] ∧ f.path.length ≤ 8 ∧ ∀ s ∈ f.path, partOk s = true := by
  have h0 := h
  unfold validOf wrongOf at h
  split at h
  · simp at h
  · rw [decide_eq_true_eq] at h
    have key : ∀ (l : List FileV) (i last : Nat) (M A : List ByteArray) (tot : Int), (goA last i M A tot l).2 = 0 → ∀ f ∈ l, badName f = false ∧ badRange f = false := by
      intro l
      induction l with
      | nil => intro i last M A tot _ f hf; simp at hf
      | cons g r ih =>
        intro i last M A tot hg f hf
        unfold goA at hg
        split at hg
        · next e he =>
          exfalso
          unfold errA at he
          repeat' split at he
          all_goals first | (simp at he; subst he; simp at hg) | (cases he)
        · next he =>
          have hb : badName g = false ∧ badRange g = false := by
            unfold errA at he
            have hn : badName g = false := by
              cases hq : badName g with
              | false => rfl
              | true => rw [hq] at he; simp at he
            refine ⟨hn, ?_⟩
            cases hq : badRange g with
            | false => rfl
            | true => rw [hn, hq] at he; simp at he
          rcases List.mem_cons.1 hf with rfl | hf
          · exact hb
          · exact ih _ _ _ _ _ hg f hf
    intro f hf
    obtain ⟨h1, h2⟩ := key l _ _ _ _ _ h f hf
    simp only [badName, Bool.or_eq_false_iff, Bool.not_eq_false'] at h1
    simp only [badRange, Bool.or_eq_false_iff, decide_eq_false_iff_not] at h2
    obtain ⟨n1, n2, n3⟩ := (named_iff f).1 h1.1.1
    refine ⟨by omega, by omega, by intro q; rw [q] at n1; simp at n1, n2, n3⟩
end Go.Proofs.YtnhgichiedninaaGreatDoor
