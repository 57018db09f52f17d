/-
  Several texts in one, in their build order. Texts cut at a byte, and decimal numbers, told in plain words. Plain Lean, no program. No condition. Fields of bits told in plain words: which bit stands where in a row of bytes, a bit that is set, a field's shape. Plain Lean, no program. No condition. Fields of bits and runs of bits told in plain words: the numbers that are set, the runs they make, the field that runs make; runs of a field make the field. Plain Lean, no program. No condition.
-/
import Derived.Test.YtbgmkplpolgebaaGreatDoorM1
import Derived.Test.YtbgmkplpolgebaaGreatDoorM2
import Derived.Lib.SplitLaws
import Derived.Lib.Split
import Derived.Lib.AtoiAll
import Derived.Lib.ItoaNum
namespace Go.Proofs.YtbgmkplpolgebaaGreatDoor
set_option linter.unusedSimpArgs false
set_option linter.unusedVariables false

def consHead (b : UInt8) : List (List UInt8) → List (List UInt8)
  | [] => [[b]]
  | h :: t => (b :: h) :: t
/-- A text cut at each c; 'sv' stays at the end of a piece that ends so. -/
def pieces (sv : List UInt8) (c : UInt8) : List UInt8 → List (List UInt8)
  | [] => [[]]
  | b :: l => if b = c then sv :: pieces sv c l else consHead b (pieces sv c l)
theorem consHead_ne (b : UInt8) (L : List (List UInt8)) : consHead b L ≠ [] := by cases L <;> simp [consHead]
theorem pieces_ne (sv : List UInt8) (c : UInt8) (s : List UInt8) : pieces sv c s ≠ [] := by
  cases s with
  | nil => simp [pieces]
  | cons b l =>
    rw [pieces]
    split
    · simp
    · exact consHead_ne _ _
theorem byte_some {l : List UInt8} {c : UInt8} (h : 0 < l.count c) : ∃ i : Nat, Lib.indexByte l c = i := by
  have h1 := Lib.indexByte_ge l c
  by_cases e : Lib.indexByte l c = -1
  · have hm : c ∈ l := List.count_pos_iff.1 h
    obtain ⟨k, hk, e2⟩ := List.mem_iff_getElem.1 hm
    exact absurd (by rw [List.getElem?_eq_getElem hk, e2]) (Lib.indexByte_none e k)
  · exact Int.eq_ofNat_of_zero_le (by omega)
theorem splitK_one (c : UInt8) (save : Nat) (hs : save ≤ 1) : ∀ s : List UInt8, Lib.splitK [c] save (s.count c) s = pieces (if save = 0 then [] else [c]) c s
  | [] => by simp [Lib.splitK, pieces]
  | b :: l => by
    have ih := splitK_one c save hs l
    by_cases e : b = c
    · subst e
      have h0 : Lib.index (b :: l) [b] = 0 := by rw [Lib.index_one]; simp [Lib.indexByte]
      rw [List.count_cons_self, Lib.splitK, h0, pieces, if_pos rfl]
      simp only [show ((0 : Int) == -1) = false from rfl, Bool.false_eq_true, if_false, Int.toNat_zero, Nat.zero_add, List.length_singleton, List.drop_succ_cons, List.drop_zero]
      rw [ih]
      congr 1
      rcases Nat.le_one_iff_eq_zero_or_eq_one.1 hs with rfl | rfl <;> simp
    · rw [List.count_cons_of_ne e, pieces, if_neg e, ← ih]
      cases hk : l.count c with
      | zero => simp [Lib.splitK, consHead]
      | succ m =>
        obtain ⟨i, hi⟩ := byte_some (l := l) (c := c) (by omega)
        have h1 : Lib.index l [c] = i := by rw [Lib.index_one, hi]
        have h2 : Lib.index (b :: l) [c] = ((i + 1 : Nat) : Int) := by
          rw [Lib.index_one, Lib.indexByte, hi]
          have e1 : (b == c) = false := by simpa using e
          have e2 : ((i : Int) == -1) = false := by simp
          rw [e1, e2]
          simp
        have e3 : ((i : Int) == -1) = false := by simp
        have e4 : (((i + 1 : Nat) : Int) == -1) = false := by rw [beq_eq_false_iff_ne]; omega
        rw [Lib.splitK, Lib.splitK, h1, h2, e3, e4]
        simp only [Bool.false_eq_true, if_false, Int.toNat_natCast, List.length_singleton, consHead]
        have e5 : i + 1 + save = (i + save) + 1 := by omega
        rw [e5, List.take_succ_cons, List.drop_succ_cons]
/-- What is before the first c, what is behind it, and whether there is one. -/
def cutB (c : UInt8) : List UInt8 → List UInt8 × List UInt8 × Bool
  | [] => ([], [], false)
  | b :: l => if b = c then ([], l, true) else (b :: (cutB c l).1, (cutB c l).2.1, (cutB c l).2.2)
theorem cut_one (c : UInt8) : ∀ s : List UInt8, Lib.cut s [c] = cutB c s
  | [] => by simp [Lib.cut, Lib.index, cutB]
  | b :: l => by
    have ih := cut_one c l
    have hge := Lib.indexByte_ge l c
    rw [cutB, ← ih]
    unfold Lib.cut
    rw [Lib.index_one, Lib.index_one, Lib.indexByte]
    by_cases e : b = c
    · subst e
      simp
    · have e1 : (b == c) = false := by simpa using e
      rw [e1, if_neg e]
      by_cases e2 : Lib.indexByte l c = -1
      · rw [e2]
        simp
      · have e3 : (Lib.indexByte l c == -1) = false := by simpa using e2
        obtain ⟨i, hi⟩ := Int.eq_ofNat_of_zero_le (show 0 ≤ Lib.indexByte l c by omega)
        rw [e3, hi]
        have h4 : (0 : Int) ≤ (i : Int) + 1 := by omega
        have h5 : ((i : Int) + 1).toNat = i + 1 := by omega
        simp only [Bool.false_eq_true, if_false, h4, if_true, h5, Int.natCast_nonneg, Int.toNat_natCast, List.take_succ_cons, List.length_singleton]
        rfl
def isDig (b : UInt8) : Bool := decide (48 ≤ b.toNat) && decide (b.toNat ≤ 57)
def decFrom (a : Nat) (ds : List UInt8) : Nat := ds.foldl (fun a b => a * 10 + (b.toNat - 48)) a
def decVal (ds : List UInt8) : Nat := decFrom 0 ds
def canon (ds : List UInt8) : Bool := !decide (ds = []) && (decide (ds = [48]) || !decide (ds.head? = some 48))
def mkB (l : List UInt8) : ByteArray := ⟨l.toArray⟩
theorem pieces_app {c : UInt8} (b : List UInt8) : ∀ (a : List UInt8), c ∉ a → pieces [] c (a ++ c :: b) = a :: pieces [] c b := by
  intro a
  induction a with
  | nil => intro _; simp [pieces]
  | cons x a ih =>
    intro h
    have hx : x ≠ c := fun e => h (by rw [e]; exact .head _)
    rw [List.cons_append, pieces, if_neg hx, ih (fun q => h (.tail _ q)), consHead]
theorem pieces_free {c : UInt8} : ∀ (a : List UInt8), c ∉ a → pieces [] c a = [a] := by
  intro a
  induction a with
  | nil => intro _; rfl
  | cons x a ih =>
    intro h
    have hx : x ≠ c := fun e => h (by rw [e]; exact .head _)
    rw [pieces, if_neg hx, ih (fun q => h (.tail _ q)), consHead]
theorem decFrom_ge : ∀ (ds : List UInt8) (a : Nat), a ≤ decFrom a ds
  | [], a => Nat.le_refl _
  | c :: r, a => by
    have := decFrom_ge r (a * 10 + (c.toNat - 48))
    simp only [decFrom, List.foldl_cons] at *
    omega
theorem decFrom_cons (c : UInt8) (r : List UInt8) (a : Nat) : decFrom a (c :: r) = decFrom (a * 10 + (c.toNat - 48)) r := by simp only [decFrom, List.foldl_cons]
theorem parse10 (ds : List UInt8) : ∀ (a : Nat), ds.all isDig = true → a < 18446744073709551616 → Lib.parseUint10 a ds = if decFrom a ds < 18446744073709551616 then .ok (decFrom a ds) else .range := by
  induction ds with
  | nil =>
    intro a _ ha
    have e : decFrom a [] = a := by simp only [decFrom, List.foldl_nil]
    rw [e, if_pos ha]
    simp only [Lib.parseUint10]
  | cons c r ih =>
    intro a h ha
    rw [List.all_cons, Bool.and_eq_true] at h
    obtain ⟨h1, h3⟩ := h
    simp only [isDig, Bool.and_eq_true, decide_eq_true_eq] at h1
    have hge := decFrom_ge r (a * 10 + (c.toNat - 48))
    simp only [Lib.parseUint10]
    rw [if_pos h1, decFrom_cons]
    obtain ⟨v, hv⟩ : ∃ v, v = decFrom (a * 10 + (c.toNat - 48)) r := ⟨_, rfl⟩
    have ih := ih (a * 10 + (c.toNat - 48)) h3
    rw [← hv] at ih hge ⊢
    by_cases b1 : 1844674407370955162 ≤ a
    · rw [if_pos b1, if_neg (by omega)]
    · rw [if_neg b1]
      by_cases b2 : 18446744073709551616 ≤ a * 10 + (c.toNat - 48)
      · rw [if_pos b2, if_neg (by omega)]
      · rw [if_neg b2]
        exact ih (by omega)
theorem atoi_digits {ds : List UInt8} (h : ds.all isDig = true) (hne : ds ≠ []) : Lib.atoiAll ds = if decVal ds ≤ 9223372036854775807 then .ok (decVal ds) else .range := by
  cases ds with
  | nil => exact absurd rfl hne
  | cons c r =>
    have h0 := h
    simp only [List.all_cons, Bool.and_eq_true, isDig, decide_eq_true_eq] at h
    obtain ⟨⟨h1, h2⟩, h3⟩ := h
    have hp : Lib.parseMag (c :: r) = if decVal (c :: r) < 18446744073709551616 then .ok (decVal (c :: r)) else .range := by
      rw [Lib.parseMag, if_neg (by simp)]
      exact parse10 _ 0 h0 (by omega)
    simp only [Lib.atoiAll]
    rw [if_neg (show ¬ (c.toNat = 43 ∨ c.toNat = 45) by omega), hp]
    by_cases b1 : decVal (c :: r) < 18446744073709551616
    · rw [if_pos b1]
      simp only
      by_cases b2 : decVal (c :: r) ≤ 9223372036854775807
      · rw [if_pos b2, if_neg (by omega), if_neg (by omega), if_neg (by omega)]
      · rw [if_neg b2, if_pos (by omega)]
    · rw [if_neg b1, if_neg (by omega)]
theorem decVal_snoc (ds : List UInt8) (d : UInt8) : decVal (ds ++ [d]) = decVal ds * 10 + (d.toNat - 48) := by simp [decVal, decFrom]
theorem isDig_mk {u : Nat} (h : u < 10) : isDig (UInt8.ofNat (48 + u)) = true ∧ (UInt8.ofNat (48 + u)).toNat - 48 = u := by
  have e : (UInt8.ofNat (48 + u)).toNat = 48 + u := by
    rw [UInt8.toNat_ofNat']
    omega
  constructor
  · simp [isDig, e]
    omega
  · omega
theorem dec_read (u : Nat) : decVal (Lib.decDigits u) = u ∧ (Lib.decDigits u).all isDig = true ∧ canon (Lib.decDigits u) = true ∧ (10 ≤ u → (Lib.decDigits u).head? ≠ some 48) ∧ (0 < u → (Lib.decDigits u).head? ≠ some 48) := by
  induction u using Nat.strongRecOn with
  | ind u ih =>
    by_cases h : u < 10
    · obtain ⟨i1, i2⟩ := isDig_mk h
      rw [Lib.decDigits_one h]
      refine ⟨by show 0 * 10 + ((UInt8.ofNat (48 + u)).toNat - 48) = u; omega, by rw [List.all_cons, List.all_nil, i1]; rfl, ?_, by omega, ?_⟩
      · simp only [canon, List.head?_cons, Bool.and_eq_true, Bool.or_eq_true, Bool.not_eq_true', decide_eq_true_eq, decide_eq_false_iff_not]
        refine ⟨by simp, ?_⟩
        by_cases e : UInt8.ofNat (48 + u) = 48
        · exact .inl (by rw [e])
        · exact .inr (by simpa using e)
      · intro hu e
        simp at e
        have := congrArg UInt8.toNat e
        rw [UInt8.toNat_ofNat'] at this
        simp at this
        omega
    · obtain ⟨a1, a2, a3, a4, a5⟩ := ih (u / 10) (by omega)
      obtain ⟨i1, i2⟩ := isDig_mk (show u % 10 < 10 by omega)
      have hne : Lib.decDigits (u / 10) ≠ [] := (dec_bytes _).2
      have hh : (Lib.decDigits (u / 10) ++ [UInt8.ofNat (48 + u % 10)]).head? = (Lib.decDigits (u / 10)).head? := by
        cases hq : Lib.decDigits (u / 10) with
        | nil => exact absurd hq hne
        | cons x r => rfl
      have h5 := a5 (by omega)
      rw [Lib.decDigits, dif_neg h]
      refine ⟨by rw [decVal_snoc, a1, i2]; omega, by rw [List.all_append, a2, List.all_cons, List.all_nil, i1]; rfl, ?_, fun _ => by rw [hh]; exact h5, fun _ => by rw [hh]; exact h5⟩
      simp only [canon, hh, Bool.and_eq_true, Bool.or_eq_true, Bool.not_eq_true', decide_eq_true_eq, decide_eq_false_iff_not]
      exact ⟨by simp, .inr h5⟩
theorem dig_back {d : UInt8} (h : isDig d = true) : UInt8.ofNat (48 + (d.toNat - 48)) = d := by
  simp only [isDig, Bool.and_eq_true, decide_eq_true_eq] at h
  have e : 48 + (d.toNat - 48) = d.toNat := by omega
  rw [e]
  simp
theorem dec_back_go : ∀ (n : Nat) (ds : List UInt8), ds.length = n → ds.all isDig = true → canon ds = true → Lib.decDigits (decVal ds) = ds ∧ (ds.head? ≠ some 48 → 1 ≤ decVal ds)
  | 0, ds, hl, _, hc => by
    obtain rfl : ds = [] := List.eq_nil_of_length_eq_zero hl
    simp [canon] at hc
  | 1, ds, hl, hd, hc => by
    match ds, hl with
    | [d], _ =>
      simp only [List.all_cons, List.all_nil, Bool.and_true] at hd
      have hb := hd
      simp only [isDig, Bool.and_eq_true, decide_eq_true_eq] at hb
      have e : decVal [d] = d.toNat - 48 := by simp [decVal, decFrom]
      rw [e]
      refine ⟨by rw [Lib.decDigits_one (by omega), dig_back hd], fun q => ?_⟩
      simp at q
      have : d.toNat ≠ 48 := fun x => q (by rw [← UInt8.toNat_inj]; simpa using x)
      omega
  | n + 2, ds, hl, hd, hc => by
    obtain ⟨es, d, rfl⟩ : ∃ es d, ds = es ++ [d] := by
      have hne : ds ≠ [] := by intro q; subst q; simp at hl
      exact ⟨ds.dropLast, ds.getLast hne, (List.dropLast_concat_getLast hne).symm⟩
    have hle : es.length = n + 1 := by simpa using hl
    rw [List.all_append, Bool.and_eq_true] at hd
    have hdd : isDig d = true := by simpa using hd.2
    have hne : es ≠ [] := by intro q; subst q; simp at hle
    have hh : (es ++ [d]).head? = es.head? := by
      cases es with
      | nil => exact absurd rfl hne
      | cons x r => rfl
    have h48 : es.head? ≠ some 48 := by
      simp only [canon, hh, Bool.and_eq_true, Bool.or_eq_true, Bool.not_eq_true', decide_eq_true_eq, decide_eq_false_iff_not] at hc
      rcases hc.2 with q | q
      · have := congrArg List.length q
        simp only [List.length_append, List.length_singleton, hle] at this
        omega
      · exact q
    have hce : canon es = true := by
      simp only [canon, Bool.and_eq_true, Bool.or_eq_true, Bool.not_eq_true', decide_eq_true_eq, decide_eq_false_iff_not]
      exact ⟨hne, .inr h48⟩
    obtain ⟨i1, i2⟩ := dec_back_go (n + 1) es hle hd.1 hce
    have hv := i2 h48
    have hb := hdd
    simp only [isDig, Bool.and_eq_true, decide_eq_true_eq] at hb
    rw [decVal_snoc]
    have e1 : (decVal es * 10 + (d.toNat - 48)) / 10 = decVal es := by omega
    have e2 : (decVal es * 10 + (d.toNat - 48)) % 10 = d.toNat - 48 := by omega
    refine ⟨?_, fun _ => by omega⟩
    rw [Lib.decDigits, dif_neg (by omega), e1, e2, i1, dig_back hdd]
theorem dec_back {ds : List UInt8} (hd : ds.all isDig = true) (hc : canon ds = true) : Lib.decDigits (decVal ds) = ds := (dec_back_go _ ds rfl hd hc).1
theorem mkB_data (l : List UInt8) : (mkB l).data.toList = l := rfl
theorem data_mkB (s : ByteArray) : mkB s.data.toList = s := by
  apply bytes_ext
  rfl
theorem piece_le (sv : List UInt8) (hs : sv.length ≤ 1) (c : UInt8) : ∀ (s : List UInt8), ∀ x ∈ pieces sv c s, x.length ≤ s.length + 1
  | [], x, h => by simp [pieces] at h; subst h; simp
  | b :: l, x, h => by
    have ih := piece_le sv hs c l
    rw [pieces] at h
    split at h
    · rcases List.mem_cons.1 h with rfl | h
      · simp; omega
      · have := ih x h; simp; omega
    · cases hp : pieces sv c l with
      | nil => exact absurd hp (pieces_ne sv c l)
      | cons y r =>
        rw [hp, consHead] at h
        rcases List.mem_cons.1 h with rfl | h
        · have := ih y (by rw [hp]; simp); simp at *; omega
        · have := ih x (by rw [hp]; simp [h]); simp; omega
theorem pieces_len (sv : List UInt8) (c : UInt8) : ∀ (s : List UInt8), (pieces sv c s).length = s.count c + 1
  | [] => rfl
  | b :: l => by
    have ih := pieces_len sv c l
    rw [pieces]
    by_cases e : b = c
    · subst e
      rw [if_pos rfl, List.length_cons, ih, List.count_cons_self]
    · rw [if_neg e, List.count_cons_of_ne e, ← ih]
      cases hp : pieces sv c l with
      | nil => exact absurd hp (pieces_ne sv c l)
      | cons y r => rfl
theorem splitB_pieces (c : UInt8) (save : Nat) (hs : save ≤ 1) (s : ByteArray) : Lib.splitB ⟨#[c]⟩ save (s.data.toList.count c) s = (pieces (if save = 0 then [] else [c]) c s.data.toList).map mkB := by
  have h1 := Lib.splitB_data ⟨#[c]⟩ save (s.data.toList.count c) s
  rw [show (⟨#[c]⟩ : ByteArray).data.toList = [c] from rfl, splitK_one c save hs] at h1
  rw [← h1, List.map_map]
  conv => lhs; rw [← List.map_id (Lib.splitB ⟨#[c]⟩ save (s.data.toList.count c) s)]
  apply List.map_congr_left
  intro x _
  exact (data_mkB x).symm
theorem countB_one (s : ByteArray) (c : UInt8) : Lib.countB s ⟨#[c]⟩ = s.data.toList.count c := Lib.count_one c s.data.toList
theorem byte_at' (t : ByteArray) {k : Nat} (h : k < t.size) : t.data.toList[k]? = some t[k] := by
  rw [List.getElem?_eq_getElem (by rw [Array.length_toList]; exact h)]
  rfl
end Go.Proofs.YtbgmkplpolgebaaGreatDoor

namespace Go.Proofs.YtbgmkplpolgebaaGreatDoor
set_option linter.unusedSimpArgs false
set_option linter.unusedVariables false

/-- The bit j of a byte, from the greatest on. -/
def bitB (b : UInt8) (j : Nat) : Bool := decide (b.toNat / 2 ^ (7 - j) % 2 = 1)
def maskN (j : Nat) : Nat := 128 / 2 ^ j
def setB (b : UInt8) (j : Nat) (v : Bool) : UInt8 := if v then b ||| UInt8.ofNat (maskN j) else b &&& ~~~ (UInt8.ofNat (maskN j))
theorem set_bit (b : UInt8) {i j : Nat} (v : Bool) (hi : i < 8) (hj : j < 8) : bitB (setB b i v) j = if j = i then v else bitB b j := by
  have key : ∀ n : Nat, n < 256 → ∀ i, i < 8 → ∀ j, j < 8 → (bitB (setB (UInt8.ofNat n) i true) j = if j = i then true else bitB (UInt8.ofNat n) j) ∧ (bitB (setB (UInt8.ofNat n) i false) j = if j = i then false else bitB (UInt8.ofNat n) j) := by decide +kernel
  have h := key b.toNat b.toNat_lt i hi j hj
  rw [UInt8.ofNat_toNat] at h
  cases v
  · exact h.2
  · exact h.1
theorem byte_ext {a b : UInt8} (h : ∀ j, j < 8 → bitB a j = bitB b j) : a = b := by
  have key : ∀ n : Nat, n < 256 → n = (if bitB (UInt8.ofNat n) 0 then 128 else 0) + (if bitB (UInt8.ofNat n) 1 then 64 else 0) + (if bitB (UInt8.ofNat n) 2 then 32 else 0) + (if bitB (UInt8.ofNat n) 3 then 16 else 0) + (if bitB (UInt8.ofNat n) 4 then 8 else 0) + (if bitB (UInt8.ofNat n) 5 then 4 else 0) + (if bitB (UInt8.ofNat n) 6 then 2 else 0) + (if bitB (UInt8.ofNat n) 7 then 1 else 0) := by decide +kernel
  have ha := key a.toNat a.toNat_lt
  have hb := key b.toNat b.toNat_lt
  rw [UInt8.ofNat_toNat] at ha hb
  apply UInt8.toNat_inj.1
  rw [ha, hb, h 0 (by omega), h 1 (by omega), h 2 (by omega), h 3 (by omega), h 4 (by omega), h 5 (by omega), h 6 (by omega), h 7 (by omega)]
theorem bit_zero (j : Nat) : bitB 0 j = false := by
  unfold bitB
  rw [decide_eq_false_iff_not]
  show ¬ 0 / 2 ^ (7 - j) % 2 = 1
  rw [Nat.zero_div]
  omega
/-- The bit i of a row of bytes. -/
def bitL (s : List UInt8) (i : Nat) : Bool := bitB (s.getD (i / 8) 0) (i % 8)
def setL (s : List UInt8) (i : Nat) (v : Bool) : List UInt8 := s.set (i / 8) (setB (s.getD (i / 8) 0) (i % 8) v)
theorem setL_len (s : List UInt8) (i : Nat) (v : Bool) : (setL s i v).length = s.length := by unfold setL; simp
theorem bitL_set {s : List UInt8} {i : Nat} (v : Bool) (h : i / 8 < s.length) (j : Nat) : bitL (setL s i v) j = if j = i then v else bitL s j := by
  unfold bitL setL
  rw [List.getD_eq_getElem?_getD, List.getElem?_set]
  by_cases e : i / 8 = j / 8
  · rw [if_pos e, if_pos (by omega)]
    simp only [Option.getD_some]
    rw [set_bit _ _ (by omega) (by omega), e]
    by_cases e2 : j = i
    · subst e2; rw [if_pos rfl, if_pos rfl]
    · rw [if_neg (by omega), if_neg e2]
  · rw [if_neg e, if_neg (by intro q; subst q; exact e rfl), ← List.getD_eq_getElem?_getD]
theorem rows_ext : ∀ {s t : List UInt8}, s.length = t.length → (∀ i, i < 8 * s.length → bitL s i = bitL t i) → s = t := by
  intro s t hl h
  apply List.ext_getElem hl
  intro k h1 h2
  apply byte_ext
  intro j hj
  have := h (8 * k + j) (by omega)
  unfold bitL at this
  rw [show (8 * k + j) / 8 = k by omega, show (8 * k + j) % 8 = j by omega, List.getD_eq_getElem?_getD, List.getD_eq_getElem?_getD, List.getElem?_eq_getElem h1, List.getElem?_eq_getElem h2] at this
  exact this
theorem bitL_zero (k i : Nat) : bitL (List.replicate k 0) i = false := by
  unfold bitL
  rw [List.getD_eq_getElem?_getD, List.getElem?_replicate]
  split <;> exact bit_zero _
/-- A row of bytes that is a field of n bits. -/
structure FieldOf (n : Nat) (s : List UInt8) : Prop where
  len : s.length = (n + 7) / 8
  rest : ∀ i, n ≤ i → bitL s i = false
theorem bitL_out {s : List UInt8} {i : Nat} (h : 8 * s.length ≤ i) : bitL s i = false := by
  unfold bitL
  rw [List.getD_eq_getElem?_getD, List.getElem?_eq_none (by omega)]
  exact bit_zero _
theorem FieldOf.set {n : Nat} {s : List UInt8} (h : FieldOf n s) {i : Nat} (hi : i < n) (v : Bool) : FieldOf n (setL s i v) := by
  have hl := h.len
  refine ⟨by rw [setL_len]; exact hl, fun j hj => ?_⟩
  rw [bitL_set v (by omega), if_neg (by omega)]
  exact h.rest j hj
theorem FieldOf.bit_set {n : Nat} {s : List UInt8} (h : FieldOf n s) {i : Nat} (hi : i < n) (v : Bool) (j : Nat) : bitL (setL s i v) j = if j = i then v else bitL s j :=
  bitL_set v (by have := h.len; omega) j
theorem FieldOf.zero (n : Nat) : FieldOf n (List.replicate ((n + 7) / 8) 0) := ⟨by simp, fun _ _ => bitL_zero _ _⟩
theorem FieldOf.ext {n : Nat} {s t : List UInt8} (h : FieldOf n s) (k : FieldOf n t) (hb : ∀ i, i < n → bitL s i = bitL t i) : s = t := by
  refine rows_ext (h.len.trans k.len.symm) (fun i hi => ?_)
  by_cases hn : i < n
  · exact hb i hn
  · rw [h.rest i (by omega), k.rest i (by omega)]
end Go.Proofs.YtbgmkplpolgebaaGreatDoor

namespace Go.Proofs.YtbgmkplpolgebaaGreatDoor
set_option linter.unusedSimpArgs false
set_option linter.unusedVariables false

/-- The numbers of the bits that are set, below n. -/
def numsL (n : Nat) (s : List UInt8) : List Nat := (List.range n).filter (fun i => bitL s i)
theorem numsL_succ (n : Nat) (s : List UInt8) : numsL (n + 1) s = numsL n s ++ (if bitL s n = true then [n] else []) := by
  unfold numsL
  rw [List.range_succ, List.filter_append]
  congr 1
  cases h : bitL s n <;> simp [h]
theorem numsL_lt {n : Nat} {s : List UInt8} {i : Nat} (h : i ∈ numsL n s) : i < n := by
  unfold numsL at h
  have := (List.mem_filter.1 h).1
  simpa using this
/-- One number more behind runs. -/
def runPut (R : List (Int × Int)) (i : Nat) : List (Int × Int) :=
  match R.getLast? with
  | some r => if r.1 + r.2 = (i : Int) then R.dropLast ++ [(r.1, r.2 + 1)] else R ++ [((i : Int), 1)]
  | none => [((i : Int), 1)]
def runsN (N : List Nat) : List (Int × Int) := N.foldl runPut []
def runsF (n : Nat) (s : List UInt8) : List (Int × Int) := runsN (numsL n s)
theorem runsN_snoc (N : List Nat) (i : Nat) : runsN (N ++ [i]) = runPut (runsN N) i := by
  unfold runsN
  rw [List.foldl_append]
  rfl
theorem runPut_nil (i : Nat) : runPut [] i = [((i : Int), 1)] := rfl
theorem runPut_on (R : List (Int × Int)) (r : Int × Int) (i : Nat) (h : r.1 + r.2 = (i : Int)) : runPut (R ++ [r]) i = R ++ [(r.1, r.2 + 1)] := by
  unfold runPut
  rw [List.getLast?_concat]
  simp [h]
theorem runPut_new (R : List (Int × Int)) (r : Int × Int) (i : Nat) (h : r.1 + r.2 ≠ (i : Int)) : runPut (R ++ [r]) i = R ++ [r] ++ [((i : Int), 1)] := by
  unfold runPut
  rw [List.getLast?_concat]
  simp [h]
theorem snoc_form (R : List (Int × Int)) : R = [] ∨ ∃ A r, R = A ++ [r] := by
  rcases List.eq_nil_or_concat R with h | ⟨A, r, h⟩
  · exact .inl h
  · exact .inr ⟨A, r, by rw [h]; simp⟩
theorem snoc_ind {α : Type} {p : List α → Prop} (h0 : p []) (h1 : ∀ N i, p N → p (N ++ [i])) : ∀ (k : Nat) (N : List α), N.length = k → p N
  | 0, N, h => by
    obtain rfl : N = [] := List.eq_nil_of_length_eq_zero h
    exact h0
  | k + 1, N, h => by
    rcases List.eq_nil_or_concat N with e | ⟨A, r, e⟩
    · subst e
      cases h
    · rw [List.concat_eq_append] at e
      subst e
      exact h1 A r (snoc_ind h0 h1 k A (by simpa using h))
/-- Runs of numbers below n: each in its bounds. -/
theorem runs_good {n : Nat} (N : List Nat) : (∀ i ∈ N, i < n) → (∀ r ∈ runsN N, 0 ≤ r.1 ∧ 1 ≤ r.2 ∧ r.1 + r.2 ≤ n) ∧ (runsN N).length ≤ N.length := by
  refine snoc_ind (p := fun N => (∀ i ∈ N, i < n) → (∀ r ∈ runsN N, 0 ≤ r.1 ∧ 1 ≤ r.2 ∧ r.1 + r.2 ≤ n) ∧ (runsN N).length ≤ N.length) ?_ ?_ N.length N rfl
  · intro _; simp [runsN]
  · intro N i ih h
    obtain ⟨h1, h2⟩ := ih (fun j hj => h j (by simp [hj]))
    have hi := h i (by simp)
    rw [runsN_snoc]
    rcases snoc_form (runsN N) with e | ⟨A, r, e⟩
    · rw [e, runPut_nil]
      refine ⟨fun r hr => ?_, by simp⟩
      simp only [List.mem_singleton] at hr
      subst hr
      simp only
      omega
    · have hr := h1 r (by rw [e]; simp)
      rw [e] at h2
      by_cases q : r.1 + r.2 = (i : Int)
      · rw [e, runPut_on _ _ _ q]
        refine ⟨fun x hx => ?_, by simp at h2 ⊢; omega⟩
        rcases List.mem_append.1 hx with hx | hx
        · exact h1 x (by rw [e]; simp [hx])
        · simp only [List.mem_singleton] at hx
          subst hx
          simp only
          omega
      · rw [e, runPut_new _ _ _ q]
        refine ⟨fun x hx => ?_, by simp at h2 ⊢; omega⟩
        rcases List.mem_append.1 hx with hx | hx
        · exact h1 x (by rw [e]; exact hx)
        · simp only [List.mem_singleton] at hx
          subst hx
          simp only
          omega
/-- The bits from a on, c of them, are set. -/
def fillL (s : List UInt8) (a : Nat) : Nat → List UInt8
  | 0 => s
  | c + 1 => setL (fillL s a c) (a + c) true
theorem fill_field {n : Nat} {s : List UInt8} (h : FieldOf n s) (a : Nat) : ∀ (c : Nat), a + c ≤ n → FieldOf n (fillL s a c)
  | 0, _ => h
  | c + 1, hc => (fill_field h a c (by omega)).set (by omega) true
theorem fill_bit {n : Nat} {s : List UInt8} (h : FieldOf n s) (a : Nat) : ∀ (c : Nat), a + c ≤ n → ∀ j, bitL (fillL s a c) j = (bitL s j || (decide (a ≤ j) && decide (j < a + c)))
  | 0, _, j => by
    have : (decide (a ≤ j) && decide (j < a + 0)) = false := by
      rw [Bool.and_eq_false_iff, decide_eq_false_iff_not, decide_eq_false_iff_not]
      omega
    rw [this, Bool.or_false]
    rfl
  | c + 1, hc, j => by
    show bitL (setL (fillL s a c) (a + c) true) j = _
    rw [(fill_field h a c (by omega)).bit_set (by omega) true, fill_bit h a c (by omega) j]
    by_cases e : j = a + c
    · rw [if_pos e]
      have : (decide (a ≤ j) && decide (j < a + (c + 1))) = true := by
        rw [Bool.and_eq_true, decide_eq_true_eq, decide_eq_true_eq]
        omega
      rw [this, Bool.or_true]
    · rw [if_neg e]
      congr 1
      congr 1
      rw [decide_eq_decide]
      omega
/-- What is wrong with a run. -/
def runBad (n : Nat) (r : Int × Int) : Bool := decide (r.2 < 1) || decide (r.1 < 0) || decide ((n : Int) < r.1) || decide ((n : Int) - r.1 < r.2)
/-- One run more in a field. -/
def frStep (n : Nat) (st : Int × List UInt8) (r : Int × Int) : Except Int (Int × List UInt8) :=
  if runBad n r = true then .error 7 else if r.1 < st.1 then .error 6 else .ok (r.1 + r.2, fillL st.2 r.1.toNat r.2.toNat)
def frS (n : Nat) : List (Int × Int) → Int × List UInt8 → Except Int (Int × List UInt8)
  | [], st => .ok st
  | r :: R, st => match frStep n st r with
    | .error k => .error k
    | .ok st' => frS n R st'
def zerosL (n : Nat) : List UInt8 := List.replicate ((n + 7) / 8) 0
/-- The field of runs. -/
def frR (n : Nat) (R : List (Int × Int)) : Except Int (List UInt8) := match frS n R (0, zerosL n) with
  | .error k => .error k
  | .ok st => .ok st.2
theorem frS_app (n : Nat) : ∀ (A B : List (Int × Int)) (st : Int × List UInt8), frS n (A ++ B) st = (match frS n A st with
    | .error k => Except.error k
    | .ok st' => frS n B st')
  | [], B, st => rfl
  | r :: A, B, st => by
    show (match frStep n st r with | .error k => Except.error k | .ok st' => frS n (A ++ B) st') = (match (match frStep n st r with | .error k => Except.error k | .ok st' => frS n A st') with | .error k => Except.error k | .ok st' => frS n B st')
    cases frStep n st r with
    | error k => rfl
    | ok st' => exact frS_app n A B st'
theorem frS_field {n : Nat} : ∀ (R : List (Int × Int)) (st st' : Int × List UInt8), FieldOf n st.2 → frS n R st = .ok st' → FieldOf n st'.2
  | [], st, st', h, e => by
    injection e with e
    subst e
    exact h
  | r :: R, st, st', h, e => by
    simp only [frS] at e
    unfold frStep at e
    by_cases h1 : runBad n r = true
    · rw [if_pos h1] at e
      cases e
    · rw [if_neg h1] at e
      by_cases h2 : r.1 < st.1
      · rw [if_pos h2] at e
        cases e
      · rw [if_neg h2] at e
        refine frS_field R _ st' ?_ e
        refine fill_field h _ _ ?_
        simp only [runBad, Bool.or_eq_true, decide_eq_true_eq] at h1
        omega
theorem frR_field {n : Nat} {R : List (Int × Int)} {s : List UInt8} (h : frR n R = .ok s) : FieldOf n s := by
  unfold frR at h
  cases e : frS n R (0, zerosL n) with
  | error k => rw [e] at h; cases h
  | ok st =>
    rw [e] at h
    injection h with h
    subst h
    exact frS_field R _ st (FieldOf.zero n) e
theorem frS_one {n : Nat} {st : Int × List UInt8} {r : Int × Int} (h1 : 1 ≤ r.2) (h2 : 0 ≤ r.1) (h3 : r.1 + r.2 ≤ n) (h4 : st.1 ≤ r.1) : frS n [r] st = .ok (r.1 + r.2, fillL st.2 r.1.toNat r.2.toNat) := by
  have hb : ¬ runBad n r = true := by
    simp only [runBad, Bool.or_eq_true, decide_eq_true_eq]
    omega
  simp only [frS]
  unfold frStep
  rw [if_neg hb, if_neg (by omega)]
/-- The runs of a field make the field. -/
theorem runs_make {n : Nat} {s : List UInt8} (h : FieldOf n s) : ∀ k, k ≤ n → ∃ st, frS n (runsN (numsL k s)) (0, zerosL n) = .ok st ∧ 0 ≤ st.1 ∧ st.1 ≤ k ∧ (∀ j, bitL st.2 j = (bitL s j && decide (j < k))) ∧ (∀ A r, runsN (numsL k s) = A ++ [r] → r.1 + r.2 = st.1 ∧ 0 ≤ r.1 ∧ 1 ≤ r.2)
  | 0, _ => by
    refine ⟨(0, zerosL n), rfl, Int.le_refl _, Int.le_refl _, fun j => ?_, fun A r e => ?_⟩
    · show bitL (zerosL n) j = _
      unfold zerosL
      rw [bitL_zero]
      simp
    · simp [numsL, runsN] at e
  | k + 1, hk => by
    obtain ⟨st, h1, h2, h3, h4, h5⟩ := runs_make h k (by omega)
    have hf := frS_field _ _ st (FieldOf.zero n) h1
    rw [numsL_succ]
    by_cases hb : bitL s k = true
    · rw [if_pos hb, runsN_snoc]
      have hlast : ∀ j, (bitL s j && decide (j < k) || (decide (k ≤ j) && decide (j < k + 1))) = (bitL s j && decide (j < k + 1)) := by
        intro j
        by_cases e1 : j < k
        · have e2 : j < k + 1 := by omega
          have e3 : ¬ k ≤ j := by omega
          simp [e1, e2, e3]
        · by_cases e2 : j = k
          · subst e2
            simp [hb]
          · have e3 : ¬ j < k + 1 := by omega
            simp [e1, e3]
      rcases snoc_form (runsN (numsL k s)) with e | ⟨A, r, e⟩
      · rw [e] at h1
        injection h1 with h1
        subst h1
        rw [e, runPut_nil]
        refine ⟨((k : Int) + 1, fillL (zerosL n) k 1), ?_, by simp only; omega, by simp, fun j => ?_, fun A r q => ?_⟩
        · exact frS_one (r := ((k : Int), 1)) (by simp only; omega) (by simp only; omega) (by simp only; omega) (by simp only; omega)
        · show bitL (fillL (zerosL n) k 1) j = _
          rw [fill_bit (show FieldOf n (zerosL n) from FieldOf.zero n) k 1 (by omega), ← hlast j, ← h4 j]
        · have := congrArg List.getLast? q
          simp at this
          subst this
          exact ⟨rfl, Int.natCast_nonneg _, Int.le_refl _⟩
      · obtain ⟨g1, g2, g3⟩ := h5 A r e
        by_cases q : r.1 + r.2 = (k : Int)
        · rw [e, runPut_on _ _ _ q]
          rw [e, frS_app] at h1
          cases e1 : frS n A (0, zerosL n) with
          | error x => rw [e1] at h1; cases h1
          | ok st1 =>
            rw [e1] at h1
            simp only at h1
            have hst : st1.1 ≤ r.1 := by
              simp only [frS] at h1
              unfold frStep at h1
              by_cases c1 : runBad n r = true
              · rw [if_pos c1] at h1
                cases h1
              · rw [if_neg c1] at h1
                by_cases c2 : r.1 < st1.1
                · rw [if_pos c2] at h1
                  cases h1
                · omega
            rw [frS_one g3 g2 (by omega) hst] at h1
            injection h1 with h1
            subst h1
            have hf1 := frS_field _ _ st1 (FieldOf.zero n) e1
            refine ⟨(r.1 + (r.2 + 1), fillL st1.2 r.1.toNat (r.2 + 1).toNat), ?_, by simp only at *; omega, by simp only at *; omega, fun j => ?_, fun A' r' q' => ?_⟩
            · rw [frS_app, e1]
              exact frS_one (r := (r.1, r.2 + 1)) (by simp only; omega) g2 (by simp only; omega) hst
            · show bitL (fillL st1.2 r.1.toNat (r.2 + 1).toNat) j = _
              have e5 : (r.2 + 1).toNat = r.2.toNat + 1 := by omega
              rw [e5]
              show bitL (setL (fillL st1.2 r.1.toNat r.2.toNat) (r.1.toNat + r.2.toNat) true) j = _
              rw [(fill_field hf1 _ _ (by omega)).bit_set (by omega) true]
              have h4j := h4 j
              simp only at h4j
              rw [h4j]
              have e6 : r.1.toNat + r.2.toNat = k := by omega
              rw [e6]
              by_cases e7 : j = k
              · subst e7
                rw [if_pos rfl, hb]
                simp
              · rw [if_neg e7]
                congr 1
                rw [decide_eq_decide]
                omega
            · have := congrArg List.getLast? q'
              simp at this
              subst this
              exact ⟨rfl, g2, by simp only; omega⟩
        · rw [e, runPut_new _ _ _ q, ← e]
          refine ⟨((k : Int) + 1, fillL st.2 k 1), ?_, by simp only; omega, by simp, fun j => ?_, fun A' r' q' => ?_⟩
          · rw [frS_app, h1]
            exact frS_one (r := ((k : Int), 1)) (by simp only; omega) (by simp only; omega) (by simp only; omega) (by simp only; omega)
          · show bitL (fillL st.2 k 1) j = _
            rw [fill_bit hf k 1 (by omega), h4 j, hlast j]
          · have := congrArg List.getLast? q'
            simp at this
            subst this
            exact ⟨rfl, Int.natCast_nonneg _, Int.le_refl _⟩
    · rw [if_neg hb, List.append_nil]
      refine ⟨st, h1, h2, by omega, fun j => ?_, h5⟩
      rw [h4 j]
      by_cases e : j = k
      · subst e
        have : bitL s j = false := by simpa using hb
        rw [this]
        rfl
      · congr 1
        rw [decide_eq_decide]
        omega
theorem frR_runs {n : Nat} {s : List UInt8} (h : FieldOf n s) : frR n (runsF n s) = .ok s := by
  obtain ⟨st, h1, -, -, h4, -⟩ := runs_make h n (Nat.le_refl _)
  unfold frR runsF
  rw [h1]
  have hf := frS_field _ _ st (FieldOf.zero n) h1
  show Except.ok st.2 = .ok s
  congr 1
  refine hf.ext h (fun i hi => ?_)
  rw [h4 i, decide_eq_true hi, Bool.and_true]
end Go.Proofs.YtbgmkplpolgebaaGreatDoor
