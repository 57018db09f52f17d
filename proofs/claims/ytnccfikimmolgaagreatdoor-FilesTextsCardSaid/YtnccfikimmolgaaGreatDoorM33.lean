/-
  Several texts in one, in their build order. The walk of number: a number by its form. Conditions: the text is small; the library's variables are as laid. The loop of Parse told line by line is what Parse answers. Plain Lean, no program. No condition.
-/
import Derived.Test.YtnccfikimmolgaaGreatDoorM32
import Derived.Deep.QuietTactic
import Derived.BigQuiet
import Derived.Lib.SmallJoins
import Derived.Test.YtnccfikimmolgaaGreatDoorM20
namespace Go.Proofs.YtnccfikimmolgaaGreatDoor
set_option linter.unusedSimpArgs false
set_option linter.unusedVariables false
open Go.RowKit Go.Shelf

def numOk (s : List UInt8) : Bool := s.all isDig && canon s
def numN (s : List UInt8) : Int := if s.all isDig then (if s = [] then 65537 else lenP s) else 0
theorem ret_num {n m : Int} {b c : Bool} (h1 : m = n) (h2 : c = b) : Ending.returned (.tuple #[.int .i64 n, .bool b]) = .returned (.tuple #[.int .i64 m, .bool c]) := by rw [h1, h2]
theorem byte_at' (t : ByteArray) {k : Nat} (h : k < t.size) : t.data.toList[k]? = some t[k] := by
  rw [List.getElem?_eq_getElem (by rw [Array.length_toList]; exact h)]
  rfl
theorem dig_not {t : ByteArray} {k : Nat} (h : k < t.size) (hd : isDig t[k] = false) : t.data.toList.all isDig = false := by
  rw [Bool.eq_false_iff]
  intro q
  have := List.all_eq_true.1 q t[k] (List.mem_of_getElem? (byte_at' t h))
  rw [hd] at this
  cases this
theorem dig_all {t : ByteArray} (h : ∀ (k : Nat) (hk : k < t.size), isDig t[k] = true) : t.data.toList.all isDig = true := by
  rw [List.all_eq_true]
  intro x hx
  obtain ⟨k, hk, rfl⟩ := List.mem_iff_getElem.1 hx
  have hk' : k < t.size := by rw [Array.length_toList] at hk; exact hk
  exact h k hk'
theorem bytesWorld_new (w : World) (e : TypeId) (s : ByteArray) : New w (Lib.bytesWorld w e s) := New.of_below (Go.Joins.below_bytesWorld w.heap.size w e s (Nat.le_refl _))
/-- Atoi, of digits alone. -/
theorem atoi_any (t : ByteArray) (w : World) (hv : Vars w) (hs : t.size ≤ 4000000000) (hd : t.data.toList.all isDig = true) :
    Calls Tryz.prog 70 #[.string t] w fun e w' => (∃ v x, e = .returned (.tuple #[.int .i64 v, x]) ∧ ((t.data.toList ≠ [] ∧ decVal t.data.toList ≤ 9223372036854775807 ∧ x = .nilIface ∧ v = decVal t.data.toList) ∨ ((t.data.toList = [] ∨ ¬ decVal t.data.toList ≤ 9223372036854775807) ∧ ∃ tp N, x = .iface tp (.pointer (some ⟨N, 0, none⟩))))) ∧ New w w' := by
  by_cases h0 : t.data.toList = []
  · obtain ⟨tp, p, hsy⟩ := hv.syn
    refine (Tryz.strconv_Atoi_syntax_var t (by omega) (by rw [h0]) tp p w hsy).mono ?_
    rintro e w' ⟨N, rfl, -, -, hb⟩
    exact ⟨⟨_, _, rfl, .inr ⟨.inl h0, _, N, rfl⟩⟩, New.of_below hb⟩
  · have ha := atoi_digits hd h0
    by_cases h1 : decVal t.data.toList ≤ 9223372036854775807
    · rw [if_pos h1] at ha
      refine (Tryz.strconv_Atoi_ok t (by omega) _ ha w).mono ?_
      rintro e w' ⟨rfl, hw⟩
      refine ⟨⟨_, _, rfl, .inl ⟨h0, h1, rfl, rfl⟩⟩, ?_⟩
      rcases hw with rfl | ⟨s, rfl⟩
      · exact Mod.refl _ _
      · exact bytesWorld_new _ _ _
    · rw [if_neg h1] at ha
      obtain ⟨tp, p, hsr⟩ := hv.rng
      refine (Tryz.strconv_Atoi_range_var t (by omega) ha tp p w hsr).mono ?_
      rintro e w' ⟨N, rfl, -, -, hb⟩
      exact ⟨⟨_, _, rfl, .inr ⟨.inr h1, _, N, rfl⟩⟩, New.of_below hb⟩
theorem canon_cases (t : ByteArray) (h : 0 < t.size) : t.toList.isEmpty = false ∧ canon t.data.toList = ((t.toList == [48]) || !((t[0].toNat : Int) == 48)) := by
  have h0 := byte_at' t h
  have e : t.toList = t.data.toList := ByteArray.toList_eq t
  rw [e]
  cases hq : t.data.toList with
  | nil => rw [hq] at h0; cases h0
  | cons x r =>
    rw [hq] at h0
    have hx : x = t[0] := by simpa using h0
    refine ⟨rfl, ?_⟩
    unfold canon
    rw [← hx, Bool.eq_iff_iff]
    simp only [Bool.and_eq_true, Bool.or_eq_true, Bool.not_eq_true', decide_eq_true_eq, decide_eq_false_iff_not, beq_iff_eq, List.head?_cons, Option.some.injEq, beq_eq_false_iff_ne]
    have hn : x = 48 ↔ ((x.toNat : Int) = 48) := by
      constructor
      · intro q; subst q; rfl
      · intro q
        apply UInt8.toNat_inj.1
        have : (48 : UInt8).toNat = 48 := rfl
        omega
    constructor
    · rintro ⟨-, q | q⟩
      · exact .inl q
      · exact .inr (fun z => q (hn.2 z))
    · rintro (q | q)
      · exact ⟨by simp, .inl q⟩
      · exact ⟨by simp, .inr (fun z => q (hn.1 z))⟩
set_option maxRecDepth 100000 in
set_option maxHeartbeats 4000000 in
theorem number_any (t : ByteArray) (w : World) (hv : Vars w) (hs : t.size ≤ 70000) :
    Calls Tryz.prog 46 #[.string t] w fun e w' => e = .returned (.tuple #[.int .i64 (numN t.data.toList), .bool (numOk t.data.toList)]) ∧ New w w' := by
  obtain ⟨V, hV⟩ : ∃ V, V = numN t.data.toList := ⟨_, rfl⟩
  obtain ⟨K, hK⟩ : ∃ K, K = numOk t.data.toList := ⟨_, rfl⟩
  rw [← hV, ← hK]
  have HV := hid hV; have HK := hid hK; have HVS := hid hv
  clear hV hK hv
  go_enter Tryz.func46, Tryz.ntmps46
  go_wp2
  go_loopw [9] (fun x wr => ∃ (k : Nat), x = .int .i64 k ∧ k ≤ t.size ∧ (∀ (i : Nat) (hi : i < t.size), i < k → isDig t[i] = true) ∧ New w wr) (fun x _ => t.size - (intOf x).toNat)
  case atStart => exact ⟨0, rfl, by omega, by omega, Mod.refl _ _⟩
  case round =>
    obtain ⟨k, rfl, hk, hd, hn⟩ := hrel
    have HD := hid hd; have HN := hid hn
    clear hd hn
    by_cases hlt : k < t.size
    · have hkI : (k : Int) < (t.size : Int) := by omega
      cases hdg : isDig t[k] with
      | false =>
        have hna := dig_not hlt hdg
        have HN0 : Hid (V = 0) := hid (by rw [HV.out, numN, hna]; rfl)
        have HK0 : Hid (K = false) := hid (by rw [HK.out, numOk, hna]; rfl)
        clear hna
        simp only [isDig, Bool.and_eq_false_iff, decide_eq_false_iff_not] at hdg
        by_cases hlo : (t[k].toNat : Int) < 48
        · clear hdg
          go_wp2
          go_ret2
          exact ⟨ret_num HN0.out HK0.out, HN.out⟩
        · have hhi : (57 : Int) < (t[k].toNat : Int) := by omega
          clear hdg
          go_wp2
          go_ret2
          exact ⟨ret_num HN0.out HK0.out, HN.out⟩
      | true =>
        have HDG := hid hdg
        simp only [isDig, Bool.and_eq_true, decide_eq_true_eq] at hdg
        have hlo : (48 : Int) ≤ (t[k].toNat : Int) := by omega
        have hhi : (t[k].toNat : Int) ≤ 57 := by omega
        clear hdg
        go_wp2
        go_roundw
        case rel => exact ⟨k + 1, by simp, by omega, fun i hi h => by rcases Nat.lt_succ_iff_lt_or_eq.1 h with h | h; exact HD.out i hi h; subst h; exact HDG.out, HN.out⟩
        case measure => simp [intOf]; omega
    · have hall : t.data.toList.all isDig = true := dig_all fun i hi => HD.out i hi (by omega)
      have HAT := hid (atoi_any t wr (HVS.out.new HN.out) (by omega) hall)
      have hV2 : V = if t.data.toList = [] then 65537 else lenP t.data.toList := by rw [HV.out, numN, hall, if_pos rfl]
      have hK2 : K = canon t.data.toList := by rw [HK.out, numOk, hall, Bool.true_and]
      have HV2 := hid hV2; have HK2 := hid hK2
      clear hall hV2 hK2 HD
      go_wp2_with fail
      refine HAT.out.mono ?_
      rintro e w2 ⟨⟨v, x, rfl, hx⟩, n2⟩
      have N2 := hid n2
      clear n2
      rcases hx with ⟨h0, h1, rfl, hvv⟩ | ⟨h0, tp, N, rfl⟩
      · have hpos : 0 < t.size := by
          rcases Nat.eq_zero_or_pos t.size with q | q
          · exact absurd (List.eq_nil_of_length_eq_zero (by rw [Array.length_toList]; exact q)) h0
          · exact q
        have HNV : Hid (V = v) := hid (by rw [HV2.out, if_neg h0, lenP, if_pos h1, hvv])
        obtain ⟨c1, c2⟩ := canon_cases t hpos
        rw [c2] at HK2
        clear h0 h1 hvv c2
        cases b1 : t.toList == [48] with
        | true =>
          rw [b1, Bool.true_or] at HK2
          have HOK := hid HK2.out
          go_wp2
          go_quiet (fail)
          go_wp2
          go_ret2
          exact ⟨ret_num HNV.out HOK.out, Mod.drewN (HN.out.trans N2.out) _⟩
        | false =>
          cases b2 : ((t[0].toNat : Int) == 48) with
          | true =>
            rw [b1, b2] at HK2
            have HOK : Hid (K = false) := hid HK2.out
            have b3 : ((t[0].toNat : Int) != 48) = false := by rw [bne, b2]; rfl
            go_wp2
            go_quiet (fail)
            go_wp2
            go_ret2
            exact ⟨ret_num HNV.out HOK.out, Mod.drewN (HN.out.trans N2.out) _⟩
          | false =>
            rw [b1, b2] at HK2
            have HOK : Hid (K = true) := hid HK2.out
            have b3 : ((t[0].toNat : Int) != 48) = true := by rw [bne, b2]; rfl
            go_wp2
            go_quiet (fail)
            go_wp2
            go_ret2
            exact ⟨ret_num HNV.out HOK.out, Mod.drewN (HN.out.trans N2.out) _⟩
      · have hnv : V = 65537 := by
          rw [HV2.out]
          rcases h0 with q | q
          · rw [if_pos q]
          · split
            · rfl
            · rw [lenP, if_neg q]
        have HNV := hid hnv
        clear hnv
        rcases Nat.eq_zero_or_pos t.size with hz | hpos
        · have hnil : t.data.toList = [] := List.eq_nil_of_length_eq_zero (by rw [Array.length_toList]; exact hz)
          have hK0 : K = false := by rw [HK2.out, hnil]; rfl
          have HOK := hid hK0
          have hem : t.toList = [] := by rw [ByteArray.toList_eq t]; exact hnil
          have hem2 : t.toList.isEmpty = true := by rw [hem]; rfl
          clear h0 hnil hK0
          go_wp2
          go_quiet (fail)
          go_wp2
          go_ret2
          exact ⟨ret_num HNV.out HOK.out, Mod.drewN (HN.out.trans N2.out) _⟩
        · obtain ⟨c1, c2⟩ := canon_cases t hpos
          rw [c2] at HK2
          clear h0 c2
          cases b1 : t.toList == [48] with
          | true =>
            rw [b1, Bool.true_or] at HK2
            have HOK := hid HK2.out
            go_wp2
            go_quiet (fail)
            go_wp2
            go_ret2
            exact ⟨ret_num HNV.out HOK.out, Mod.drewN (HN.out.trans N2.out) _⟩
          | false =>
            cases b2 : ((t[0].toNat : Int) == 48) with
            | true =>
              rw [b1, b2] at HK2
              have HOK : Hid (K = false) := hid HK2.out
              have b3 : ((t[0].toNat : Int) != 48) = false := by rw [bne, b2]; rfl
              go_wp2
              go_quiet (fail)
              go_wp2
              go_ret2
              exact ⟨ret_num HNV.out HOK.out, Mod.drewN (HN.out.trans N2.out) _⟩
            | false =>
              rw [b1, b2] at HK2
              have HOK : Hid (K = true) := hid HK2.out
              have b3 : ((t[0].toNat : Int) != 48) = true := by rw [bne, b2]; rfl
              go_wp2
              go_quiet (fail)
              go_wp2
              go_ret2
              exact ⟨ret_num HNV.out HOK.out, Mod.drewN (HN.out.trans N2.out) _⟩
end Go.Proofs.YtnccfikimmolgaaGreatDoor

namespace Go.Proofs.YtnccfikimmolgaaGreatDoor
set_option linter.unusedSimpArgs false
set_option linter.unusedVariables false

theorem pieces_save (c : UInt8) : ∀ s : List UInt8, pieces [c] c s = ((pieces [] c s).dropLast).map (· ++ [c]) ++ [((pieces [] c s).getLast?).getD []]
  | [] => by simp [pieces]
  | b :: l => by
    have ih := pieces_save c l
    obtain ⟨x, r, hp⟩ : ∃ x r, pieces [] c l = x :: r := by
      cases h : pieces [] c l with
      | nil => exact absurd h (pieces_ne _ _ _)
      | cons x r => exact ⟨x, r, rfl⟩
    rw [hp] at ih
    rw [pieces, pieces, hp, ih]
    by_cases e : b = c
    · subst e
      simp
    · rw [if_neg e, if_neg e]
      cases r with
      | nil => simp [consHead]
      | cons y r => simp [consHead]
/-- The lines as the loop of Parse sees them. -/
def linesK (s : List UInt8) : List (List UInt8) := (linesOf s).map (· ++ [10]) ++ (if tailOf s = [] then [] else [tailOf s])
theorem linesK_save (s : List UInt8) : pieces [10] 10 s = (linesOf s).map (· ++ [10]) ++ [tailOf s] := pieces_save 10 s
theorem linesK_drop {s : List UInt8} (h : tailOf s = []) : linesK s = (pieces [10] 10 s).dropLast := by
  rw [linesK_save, linesK, if_pos h]
  simp
theorem linesK_all {s : List UInt8} (h : tailOf s ≠ []) : linesK s = pieces [10] 10 s := by
  rw [linesK_save, linesK, if_neg h]
/-- A line with its end. -/
def lineK (x : List UInt8) : Option (Bool × List UInt8 × List UInt8) := if x.getLast? = some 10 then lineP x.dropLast else none
theorem lineK_end (L : List UInt8) : lineK (L ++ [10]) = lineP L := by simp [lineK]
theorem lineK_open {L : List UInt8} (h : (10 : UInt8) ∉ L) : lineK L = none := by
  unfold lineK
  rw [if_neg]
  intro q
  exact h (List.mem_of_getLast? q)
def badK : List (List UInt8) → Nat → Option Nat
  | [], _ => none
  | x :: r, i => if (lineK x).isSome then badK r (i + 1) else some i
def filesK (ls : List (List UInt8)) : List FileV := ls.filterMap fun x => (lineK x).map fileP
theorem badK_app : ∀ (A B : List (List UInt8)) (i : Nat), badK (A.map (· ++ [10]) ++ B) i = (match badAt A i with | some j => some j | none => badK B (i + A.length))
  | [], B, i => by simp [badAt]
  | L :: A, B, i => by
    rw [List.map_cons, List.cons_append, badK, badAt, lineK_end]
    cases h : (lineP L).isSome with
    | false => simp
    | true =>
      simp only [if_true]
      rw [badK_app A B (i + 1), List.length_cons, show i + 1 + A.length = i + (A.length + 1) by omega]
theorem badK_at : ∀ (ls : List (List UInt8)) (i k : Nat) (hk : k < ls.length), (∀ (j : Nat) (hj : j < ls.length), j < k → (lineK ls[j]).isSome = true) → (lineK ls[k]).isSome = false → badK ls i = some (i + k)
  | [], i, k, hk, _, _ => absurd hk (by simp)
  | x :: r, i, 0, hk, h, hb => by
    rw [List.getElem_cons_zero] at hb
    rw [badK, hb]
    simp
  | x :: r, i, k + 1, hk, h, hb => by
    have h0 := h 0 (by simp) (by omega)
    rw [List.getElem_cons_zero] at h0
    rw [List.getElem_cons_succ] at hb
    rw [badK, h0, if_pos rfl, badK_at r (i + 1) k (by simpa using hk) (fun j hj hjk => by have := h (j + 1) (by simpa using hj) (by omega); rwa [List.getElem_cons_succ] at this) hb]
    congr 1
    omega
theorem badK_none : ∀ (ls : List (List UInt8)) (i : Nat), (∀ (j : Nat) (hj : j < ls.length), (lineK ls[j]).isSome = true) → badK ls i = none
  | [], i, _ => rfl
  | x :: r, i, h => by
    have h0 := h 0 (by simp)
    rw [List.getElem_cons_zero] at h0
    rw [badK, h0, if_pos rfl]
    exact badK_none r (i + 1) (fun j hj => by have := h (j + 1) (by simpa using hj); rwa [List.getElem_cons_succ] at this)
theorem tail_free (s : List UInt8) : (10 : UInt8) ∉ tailOf s := (lines_text s.length s (Nat.le_refl _)).2.2
theorem filesK_lines (A : List (List UInt8)) : filesK (A.map (· ++ [10])) = filesP A := by
  unfold filesK filesP
  rw [List.filterMap_map]
  congr 1
  funext L
  simp only [Function.comp, lineK_end]
/-- What Parse answers by what its loop meets. -/
theorem parse_bad {s : List UInt8} {k : Nat} (h : badK (linesK s) 0 = some k) : parseL s = [] ∧ parseLine s = k ∧ parseErr s = 2 := by
  unfold linesK at h
  rw [badK_app] at h
  unfold parseL parseLine parseErr
  cases hb : badAt (linesOf s) 0 with
  | some j =>
    rw [hb] at h
    obtain rfl : j = k := by simpa using h
    exact ⟨rfl, rfl, rfl⟩
  | none =>
    rw [hb] at h
    by_cases ht : tailOf s = []
    · rw [if_pos ht] at h
      cases h
    · rw [if_neg ht] at h
      simp only [badK, lineK_open (tail_free s)] at h
      have hk : (linesOf s).length = k := by simpa using h
      simp only [if_neg ht]
      exact ⟨trivial, by rw [hk], trivial⟩
theorem parse_good {s : List UInt8} (h : badK (linesK s) 0 = none) : filesK (linesK s) = filesP (linesOf s) ∧ (linesK s).length = (linesOf s).length ∧
    parseL s = (if validOf (filesK (linesK s)) then filesK (linesK s) else []) ∧ parseLine s = (if validOf (filesK (linesK s)) then 0 else ((linesK s).length : Int)) ∧ parseErr s = (if validOf (filesK (linesK s)) then 0 else 2) := by
  have ht : tailOf s = [] := by
    apply Classical.byContradiction
    intro ht
    unfold linesK at h
    rw [badK_app, if_neg ht] at h
    cases hb : badAt (linesOf s) 0 with
    | some j => rw [hb] at h; cases h
    | none => rw [hb] at h; simp [badK, lineK_open (tail_free s)] at h
  have hk : linesK s = (linesOf s).map (· ++ [10]) := by unfold linesK; rw [if_pos ht, List.append_nil]
  have hf : filesK (linesK s) = filesP (linesOf s) := by rw [hk, filesK_lines]
  have hl : (linesK s).length = (linesOf s).length := by rw [hk, List.length_map]
  have hb : badAt (linesOf s) 0 = none := by
    rw [show linesK s = (linesOf s).map (· ++ [10]) ++ [] by rw [hk, List.append_nil], badK_app] at h
    cases hb : badAt (linesOf s) 0 with
    | some j => rw [hb] at h; cases h
    | none => rfl
  refine ⟨hf, hl, ?_, ?_, ?_⟩
  · unfold parseL; rw [hb, hf]; simp only [if_pos ht]
  · unfold parseLine; rw [hb, hf, hl]; simp only [if_pos ht]
  · unfold parseErr; rw [hb, hf]; simp only [if_pos ht]
/-- The step on a line: what stands in it. -/
theorem lineK_parts {x L : List UInt8} (h : x = L ++ [10]) : lineK x = (if (cutB 32 (restOfL L)).2.2 && ((cutB 32 (restOfL L)).1.all isDig && canon (cutB 32 (restOfL L)).1) then some (padOfL L, (cutB 32 (restOfL L)).1, (cutB 32 (restOfL L)).2.1) else none) := by
  subst h
  rw [lineK_end, lineP]
  simp only [Bool.and_assoc]
theorem line_ends (x : List UInt8) : (∃ L, x = L ++ [10]) ∨ x.getLast? ≠ some 10 := by
  by_cases h : x.getLast? = some 10
  · left
    obtain ⟨L, hL⟩ := List.getLast?_eq_some_iff.1 h
    exact ⟨L, hL⟩
  · exact .inr h
theorem filesK_len (ls : List (List UInt8)) : (filesK ls).length ≤ ls.length := List.length_filterMap_le _ _
theorem linesK_le (s : List UInt8) : (linesK s).length ≤ s.length + 1 := by
  have h1 : (linesK s).length ≤ (pieces [10] 10 s).length := by
    by_cases h : tailOf s = []
    · rw [linesK_drop h, List.length_dropLast]; omega
    · rw [linesK_all h]; exact Nat.le_refl _
  have h2 : ∀ t : List UInt8, (pieces [10] 10 t).length ≤ t.length + 1 := by
    intro t
    induction t with
    | nil => simp [pieces]
    | cons b l ih =>
      rw [pieces]
      split
      · simp; omega
      · cases hp : pieces [10] 10 l with
        | nil => exact absurd hp (pieces_ne _ _ _)
        | cons y r => rw [hp] at ih; simp [consHead] at *; omega
  exact Nat.le_trans h1 (h2 s)
end Go.Proofs.YtnccfikimmolgaaGreatDoor
