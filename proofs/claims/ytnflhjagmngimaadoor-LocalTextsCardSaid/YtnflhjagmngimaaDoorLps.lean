/-
  What both Parses answer to any text, in one word. Condition: the library's variables are as laid.
-/
import Derived.Test.YtnflhjagmngimaaDoorLrp
import Derived.Test.YtnflhjagmngimaaDoorLln
import Derived.Test.YtnflhjagmngimaaDoorLsm
namespace Go.Proofs.YtnflhjagmngimaaDoor
set_option linter.unusedSimpArgs false
set_option linter.unusedVariables false
open Go.RowKit

def noM : MsgV := ⟨0, [], ⟨#[]⟩⟩
def psM (t : ByteArray) : MsgV := if 1400 < t.size then noM else match readP (linesC t.data.toList) with
  | .ok m => m
  | .error _ => noM
def psN (t : ByteArray) : Nat := if 1400 < t.size then 0 else match readP (linesC t.data.toList) with
  | .ok _ => 0
  | .error n => n
def psE (t : ByteArray) : Int := if 1400 < t.size then 3 else match readP (linesC t.data.toList) with
  | .ok _ => 0
  | .error _ => 2
theorem psN_le (t : ByteArray) : psN t ≤ (linesC t.data.toList).length := by
  unfold psN
  split
  · omega
  · split
    · omega
    · next n h => exact readP_line h
theorem no_strs (w : World) : StrsAt w none 0 noM.names := ⟨by simp [noM], by simp [maxLen], by simp [noM], .inl rfl⟩
theorem Parse_any (t : ByteArray) (w : World) (hv : VarsL w) (hs : t.size ≤ maxLen) :
    Calls Tryd.prog 9 #[.string t] w fun e w' => ∃ a c, e = .returned (.tuple #[msgV a c (psM t), .int .i64 (psN t), .int .i64 (psE t)]) ∧ StrsAt w' a c (psM t).names ∧ New w w' := by
  by_cases h : 1400 < t.size
  · refine (Parse_long t w h hs).mono ?_
    rintro e w' ⟨rfl, n⟩
    unfold psM psN psE
    rw [if_pos h, if_pos h, if_pos h]
    exact ⟨none, 0, rfl, no_strs _, n⟩
  · refine (Parse_go t w hv (by omega)).mono ?_
    rintro e w' ⟨hr, n⟩
    unfold PsRes at hr
    unfold psM psN psE
    rw [if_neg h, if_neg h, if_neg h]
    cases hq : readP (linesC t.data.toList) with
    | ok m =>
      rw [hq] at hr
      obtain ⟨a, c, rfl, hst⟩ := hr
      exact ⟨a, c, rfl, hst, n⟩
    | error k =>
      rw [hq] at hr
      subst hr
      exact ⟨none, 0, rfl, no_strs _, n⟩
theorem rParse_any (t : ByteArray) (w : World) (hv : VarsL w) (hs : t.size ≤ maxLen) :
    Calls Tryd.prog 11 #[.string t] w fun e w' => ∃ a c, e = .returned (.tuple #[msgV a c (psM t), .int .i64 (psE t)]) ∧ StrsAt w' a c (psM t).names ∧ New w w' := by
  by_cases h : 1400 < t.size
  · refine (rParse_long t w h hs).mono ?_
    rintro e w' ⟨rfl, n⟩
    unfold psM psE
    rw [if_pos h, if_pos h]
    exact ⟨none, 0, rfl, no_strs _, n⟩
  · refine (rParse_go t w hv (by omega)).mono ?_
    rintro e w' ⟨hr, n⟩
    unfold PqRes at hr
    rw [parse_same] at hr
    unfold psM psE
    rw [if_neg h, if_neg h]
    unfold parseP at hr
    cases hq : readP (linesC t.data.toList) with
    | ok m =>
      rw [hq] at hr
      obtain ⟨a, c, rfl, hst⟩ := hr
      exact ⟨a, c, rfl, hst, n⟩
    | error k =>
      rw [hq] at hr
      subst hr
      exact ⟨none, 0, rfl, no_strs _, n⟩
theorem ps_written {m : MsgV} (h : validM m = true) : psM (mkB (writtenL m)) = m ∧ psN (mkB (writtenL m)) = 0 ∧ psE (mkB (writtenL m)) = 0 := by
  have hl := written_len h
  have hs : ¬ 1400 < (mkB (writtenL m)).size := by rw [mkB_size]; omega
  unfold psM psN psE
  rw [if_neg hs, if_neg hs, if_neg hs, mkB_list, lines_written h, readP_lines h]
  exact ⟨rfl, rfl, rfl⟩
end Go.Proofs.YtnflhjagmngimaaDoor
