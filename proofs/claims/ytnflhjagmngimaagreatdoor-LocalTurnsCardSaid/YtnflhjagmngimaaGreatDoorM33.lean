/-
  Several texts in one, in their build order. How many line ends a text has: counted from place to place, and by its lines. Plain Lean, no program. No condition. The walks of SameTexts, same, awake: two equal lists, two equal messages; the document's example. Conditions: the lists lie as told; the library's table is laid. What both Parses answer to any text, in one word. Condition: the library's variables are as laid.
-/
import Derived.Test.YtnflhjagmngimaaGreatDoorM9
import Derived.Test.YtnflhjagmngimaaGreatDoorM20
import Derived.Deep.RegionHeld3
import Derived.Test.YtnflhjagmngimaaGreatDoorM32
namespace Go.Proofs.YtnflhjagmngimaaGreatDoor
set_option linter.unusedSimpArgs false
set_option linter.unusedVariables false

/-- How many places hold 13 and then 10. -/
def pairs : List UInt8 → Nat
  | [] => 0
  | [_] => 0
  | a :: b :: r => (if a = 13 ∧ b = 10 then 1 else 0) + pairs (b :: r)
theorem pairs_snoc (b : UInt8) : ∀ (l : List UInt8) (a : UInt8), pairs (l ++ [a, b]) = pairs (l ++ [a]) + (if a = 13 ∧ b = 10 then 1 else 0)
  | [], a => by simp [pairs]
  | [x], a => by
    simp only [List.cons_append, List.nil_append, pairs]
    omega
  | x :: y :: l, a => by
    have ih := pairs_snoc b (y :: l) a
    simp only [List.cons_append, pairs] at ih ⊢
    omega
theorem pairs_free : ∀ (l : List UInt8), (∀ j, Lib.occAt l [13, 10] j = false) → pairs l = 0
  | [], _ => rfl
  | [_], _ => rfl
  | a :: b :: r, h => by
    have h0 := h 0
    have hn : ¬ (a = 13 ∧ b = 10) := by
      rintro ⟨rfl, rfl⟩
      simp [Lib.occAt] at h0
    rw [pairs, if_neg hn, pairs_free (b :: r) (fun j => by
      have := h (j + 1)
      unfold Lib.occAt at this ⊢
      rwa [List.drop_succ_cons] at this)]
theorem pairs_hit : ∀ (l r : List UInt8), (∀ j, j < l.length → Lib.occAt (l ++ [13, 10] ++ r) [13, 10] j = false) → pairs (l ++ [13, 10] ++ r) = 1 + pairs r
  | [], r, _ => by
    cases r with
    | nil => rfl
    | cons c r => simp [pairs]
  | [a], r, h => by
    have h0 := h 0 (by simp)
    have ih := pairs_hit [] r (fun j hj => by simp at hj)
    simp only [List.nil_append, List.cons_append] at ih ⊢
    rw [pairs, ih, if_neg (fun q => by have := q.2; simp at this)]
    omega
  | a :: b :: l, r, h => by
    have h0 := h 0 (by simp)
    have hn : ¬ (a = 13 ∧ b = 10) := by
      rintro ⟨rfl, rfl⟩
      simp [Lib.occAt] at h0
    have ih := pairs_hit (b :: l) r (fun j hj => by
      have := h (j + 1) (by simp at hj ⊢; omega)
      unfold Lib.occAt at this ⊢
      simpa using this)
    simp only [List.cons_append] at ih ⊢
    rw [pairs, if_neg hn, ih]
    omega
theorem lines_pairs : ∀ (n : Nat) (s : List UInt8), s.length ≤ n → (linesC s).length = 1 + pairs s := by
  intro n
  induction n with
  | zero =>
    intro s hs
    obtain rfl : s = [] := List.eq_nil_of_length_eq_zero (by omega)
    rw [lines_miss (by decide)]
    rfl
  | succ n ih =>
    intro s hs
    rcases Lib.index_spec s [13, 10] with ⟨h, hx⟩ | ⟨i, h, hi, ho, hf⟩
    · rw [lines_miss h, pairs_free s (fun j => by
        by_cases q : j ≤ s.length
        · exact hx j q
        · unfold Lib.occAt
          rw [List.drop_eq_nil_of_le (by omega)]
          rfl)]
      rfl
    · obtain ⟨e, hl⟩ := occ_form ho
      rw [lines_hit h, List.length_cons, ih _ (by rw [List.length_drop]; omega)]
      have hti : (s.take i).length = i := by rw [List.length_take]; omega
      have := pairs_hit (s.take i) (s.drop (i + 2)) (fun j hj => by rw [← e]; exact hf j (by omega))
      rw [← e] at this
      omega
theorem pairs_next {l : List UInt8} {j : Nat} (h : j + 1 < l.length) : pairs (l.take (j + 2)) = pairs (l.take (j + 1)) + (if l[j] = 13 ∧ l[j + 1] = 10 then 1 else 0) := by
  have e1 : l.take (j + 1) = l.take j ++ [l[j]] := by rw [List.take_add_one, List.getElem?_eq_getElem (by omega)]; rfl
  have e2 : l.take (j + 2) = l.take j ++ [l[j], l[j + 1]] := by
    have h3 : l.take (j + 1 + 1) = l.take (j + 1) ++ l[j + 1]?.toList := List.take_add_one
    rw [show j + 2 = j + 1 + 1 from rfl, h3, e1, List.getElem?_eq_getElem h, List.append_assoc]
    rfl
  rw [e1, e2, pairs_snoc]
end Go.Proofs.YtnflhjagmngimaaGreatDoor

namespace Go.Proofs.YtnflhjagmngimaaGreatDoor
set_option linter.unusedSimpArgs false
set_option linter.unusedVariables false
open Go.RowKit

set_option maxRecDepth 100000 in
set_option maxHeartbeats 4000000 in
theorem sameTexts_eq (a1 a2 : Option Addr) (c1 c2 : Nat) (l : List ByteArray) (w : World) (h1 : StrsAt w a1 c1 l) (h2 : StrsAt w a2 c2 l) : Calls Tryz.prog 15 #[.slice a1 l.length c1, .slice a2 l.length c2] w fun e w' => e = .returned (.bool true) ∧ New w w' := by
  have hm1 := h1.room; have hm2 := h1.cap; have hm3 := h2.room; have hm4 := h2.cap
  unfold maxLen at hm2 hm4
  rcases Nat.eq_zero_or_pos l.length with hz | hz
  · obtain rfl : l = [] := List.eq_nil_of_length_eq_zero hz
    clear h1 h2 hz
    go_enter Tryz.func15, Tryz.ntmps15
    go_wp2
    refine wp_loop_rounds 1 ?_
    rw [rounds_succ]
    go_wp2
    go_ret
    exact ⟨rfl, Mod.refl _ _⟩
  · obtain ⟨b1, o1, rfl, hb1, hc1⟩ := h1.get hz
    obtain ⟨b2, o2, rfl, hb2, hc2⟩ := h2.get hz
    have HC1 := hid hc1; have HC2 := hid hc2
    clear h1 h2 hc1 hc2
    go_enter Tryz.func15, Tryz.ntmps15
    go_wp2
    go_loopw [13] (fun i wr => ∃ k : Nat, i = .int .i64 k ∧ k ≤ l.length ∧ New w wr) (fun i _ => l.length - (intOf i).toNat)
    case atStart => exact ⟨0, rfl, by omega, Mod.refl _ _⟩
    case round =>
      obtain ⟨k, rfl, hk, hn⟩ := hrel
      have HN := hid hn
      clear hn
      by_cases hlt : k < l.length
      · have hltI : (k : Int) < (l.length : Int) := by omega
        have g1 := HN.out.cellv (HC1.out k hlt)
        have g2 := HN.out.cellv (HC2.out k hlt)
        obtain ⟨x, hx⟩ : ∃ x, x = l[k] := ⟨_, rfl⟩
        rw [← hx] at g1 g2
        have hxx : (x.toList == x.toList) = true := by rw [beq_iff_eq]
        clear hx
        go_wp2
        go_region
        go_wp2
        go_roundw
        case rel => exact ⟨k + 1, by simp, by omega, HN.out.drew⟩
        case measure => simp [intOf]; omega
      · go_wp2
        go_ret
        exact ⟨rfl, HN.out⟩
def exA : ByteArray := ⟨#[97, 97, 97, 97, 97, 97, 97, 97, 97, 97, 97, 97, 97, 97, 97, 97, 97, 97, 97, 97]⟩
def exM : MsgV := ⟨6881, [exA], ⟨#[99]⟩⟩
theorem exM_valid : validM exM = true := by decide +kernel
theorem exM_port : Lib.itoa 6881 = [54, 56, 56, 49] := by
  rw [show (6881 : Int) = ((6881 : Nat) : Int) by rfl, Lib.itoa_nonneg, Lib.decDigits, dif_neg (by omega), Lib.decDigits, dif_neg (by omega), Lib.decDigits, dif_neg (by omega), Lib.decDigits_one (by omega)]
  rfl
def exW : List UInt8 := firstL ++ [13, 10] ++ portL ++ [54, 56, 56, 49] ++ [13, 10] ++ [exA].flatMap (fun n => nameLn n ++ [13, 10]) ++ (cookLn ⟨#[99]⟩ ++ [13, 10, 13, 10])
theorem exM_written : writtenL exM = exW := by
  rw [written_flat]
  show firstL ++ [13, 10] ++ portL ++ Lib.itoa 6881 ++ _ ++ _ ++ _ = _
  rw [exM_port]
  rfl
theorem exM_fmt : fmtB exM = mkB exW ∧ fmtE exM = 0 := by
  unfold fmtB fmtE
  rw [exM_valid, exM_written]
  exact ⟨rfl, rfl⟩
set_option maxRecDepth 100000 in
set_option maxHeartbeats 4000000 in
theorem awake23_any (w : World) (ht : Tab w) : Calls Tryz.prog 6 #[] w fun e w' => e = .returned (.bool true) ∧ New w w' := by
  have HA := hid (fun W (n : New w W) a c h => Format_any exM a c W h (ht.new n))
  rw [exM_fmt.1, exM_fmt.2] at HA
  obtain ⟨S, hS⟩ : ∃ S, S = mkB exW := ⟨_, rfl⟩
  have hsz : S.size = 89 := by rw [hS]; rfl
  have hsl : (S.extract 0 28).toList = [67, 65, 76, 76, 32, 42, 32, 67, 79, 86, 69, 89, 47, 49, 13, 10, 80, 111, 114, 116, 58, 32, 54, 56, 56, 49, 13, 10] := by
    rw [ByteArray.toList_eq, hS]
    rfl
  rw [← hS] at HA
  clear ht hS
  go_enter Tryz.func6, Tryz.ntmps6
  go_wp2_with fail
  have hlies : StrsAt (w.alloc (.cells #[.string exA] 9)) (some ⟨w.heap.size, 0, none⟩) 1 [exA] :=
    ⟨Nat.le_refl _, by simp [maxLen], fun x hx => by simp at hx; subst hx; decide, .inr ⟨_, 0, rfl, by simp, fun i x hx => by
      match i, hx with
      | 0, hx => simp at hx; subst hx; exact (Blk.new w #[.string exA] 9).cellv 0 rfl
      | i + 1, hx => simp at hx⟩⟩
  refine (HA.out _ ((Mod.refl _ _).alloc _) (some ⟨w.heap.size, 0, none⟩) 1 ⟨by decide, hlies, by decide⟩).mono ?_
  rintro e w1 ⟨rfl, n1⟩
  have N1 : Hid (New w w1) := hid (((Mod.refl _ w).alloc (.cells #[.string exA] 9)).trans n1)
  clear n1 hlies
  go_wp2
  go_ret
  exact ⟨rfl, N1.out⟩
end Go.Proofs.YtnflhjagmngimaaGreatDoor

namespace Go.Proofs.YtnflhjagmngimaaGreatDoor
set_option linter.unusedSimpArgs false
set_option linter.unusedVariables false
open Go.RowKit

def noM : MsgV := ⟨0, [], ⟨#[]⟩⟩
def psM (t : ByteArray) : MsgV := if 1400 < t.size then noM else match readP (linesC t.data.toList) with
  | .ok m => m
  | .error _ => noM
def psN (t : ByteArray) : Nat := if 1400 < t.size then 0 else match readP (linesC t.data.toList) with
  | .ok _ => 0
  | .error n => n
def psE (t : ByteArray) : Int := if 1400 < t.size then 3 else match readP (linesC t.data.toList) with
  | .ok _ => 0
  | .error _ => 2
theorem psN_le (t : ByteArray) : psN t ≤ (linesC t.data.toList).length := by
  unfold psN
  split
  · omega
  · split
    · omega
    · next n h => exact readP_line h
theorem no_strs (w : World) : StrsAt w none 0 noM.names := ⟨by simp [noM], by simp [maxLen], by simp [noM], .inl rfl⟩
theorem Parse_any (t : ByteArray) (w : World) (hv : VarsL w) (hs : t.size ≤ maxLen) :
    Calls Tryz.prog 50 #[.string t] w fun e w' => ∃ a c, e = .returned (.tuple #[msgV a c (psM t), .int .i64 (psN t), .int .i64 (psE t)]) ∧ StrsAt w' a c (psM t).names ∧ New w w' := by
  by_cases h : 1400 < t.size
  · refine (Parse_long t w h hs).mono ?_
    rintro e w' ⟨rfl, n⟩
    unfold psM psN psE
    rw [if_pos h, if_pos h, if_pos h]
    exact ⟨none, 0, rfl, no_strs _, n⟩
  · refine (Parse_go t w hv (by omega)).mono ?_
    rintro e w' ⟨hr, n⟩
    unfold PsRes at hr
    unfold psM psN psE
    rw [if_neg h, if_neg h, if_neg h]
    cases hq : readP (linesC t.data.toList) with
    | ok m =>
      rw [hq] at hr
      obtain ⟨a, c, rfl, hst⟩ := hr
      exact ⟨a, c, rfl, hst, n⟩
    | error k =>
      rw [hq] at hr
      subst hr
      exact ⟨none, 0, rfl, no_strs _, n⟩
theorem rParse_any (t : ByteArray) (w : World) (hv : VarsL w) (hs : t.size ≤ maxLen) :
    Calls Tryz.prog 11 #[.string t] w fun e w' => ∃ a c, e = .returned (.tuple #[msgV a c (psM t), .int .i64 (psE t)]) ∧ StrsAt w' a c (psM t).names ∧ New w w' := by
  by_cases h : 1400 < t.size
  · refine (rParse_long t w h hs).mono ?_
    rintro e w' ⟨rfl, n⟩
    unfold psM psE
    rw [if_pos h, if_pos h]
    exact ⟨none, 0, rfl, no_strs _, n⟩
  · refine (rParse_go t w hv (by omega)).mono ?_
    rintro e w' ⟨hr, n⟩
    unfold PqRes at hr
    rw [parse_same] at hr
    unfold psM psE
    rw [if_neg h, if_neg h]
    unfold parseP at hr
    cases hq : readP (linesC t.data.toList) with
    | ok m =>
      rw [hq] at hr
      obtain ⟨a, c, rfl, hst⟩ := hr
      exact ⟨a, c, rfl, hst, n⟩
    | error k =>
      rw [hq] at hr
      subst hr
      exact ⟨none, 0, rfl, no_strs _, n⟩
theorem ps_written {m : MsgV} (h : validM m = true) : psM (mkB (writtenL m)) = m ∧ psN (mkB (writtenL m)) = 0 ∧ psE (mkB (writtenL m)) = 0 := by
  have hl := written_len h
  have hs : ¬ 1400 < (mkB (writtenL m)).size := by rw [mkB_size]; omega
  unfold psM psN psE
  rw [if_neg hs, if_neg hs, if_neg hs, mkB_list, lines_written h, readP_lines h]
  exact ⟨rfl, rfl, rfl⟩
end Go.Proofs.YtnflhjagmngimaaGreatDoor
