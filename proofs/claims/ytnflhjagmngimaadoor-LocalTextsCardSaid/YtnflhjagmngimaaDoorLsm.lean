/-
  The walks of SameTexts, same, awake: two equal lists, two equal messages; the document's example. Conditions: the lists lie as told; the library's table is laid.
-/
import Derived.Test.YtnflhjagmngimaaDoorVl
import Derived.Deep.RegionHeld3
namespace Go.Proofs.YtnflhjagmngimaaDoor
set_option linter.unusedSimpArgs false
set_option linter.unusedVariables false
open Go.RowKit

set_option maxRecDepth 100000 in
set_option maxHeartbeats 4000000 in
theorem sameTexts_eq (a1 a2 : Option Addr) (c1 c2 : Nat) (l : List ByteArray) (w : World) (h1 : StrsAt w a1 c1 l) (h2 : StrsAt w a2 c2 l) : Calls Tryd.prog 20 #[.slice a1 l.length c1, .slice a2 l.length c2] w fun e w' => e = .returned (.bool true) ∧ New w w' := by
  have hm1 := h1.room; have hm2 := h1.cap; have hm3 := h2.room; have hm4 := h2.cap
  unfold maxLen at hm2 hm4
  rcases Nat.eq_zero_or_pos l.length with hz | hz
  · obtain rfl : l = [] := List.eq_nil_of_length_eq_zero hz
    clear h1 h2 hz
    go_enter Tryd.func20, Tryd.ntmps20
    go_wp2
    refine wp_loop_rounds 1 ?_
    rw [rounds_succ]
    go_wp2
    go_ret
    exact ⟨rfl, Mod.refl _ _⟩
  · obtain ⟨b1, o1, rfl, hb1, hc1⟩ := h1.get hz
    obtain ⟨b2, o2, rfl, hb2, hc2⟩ := h2.get hz
    have HC1 := hid hc1; have HC2 := hid hc2
    clear h1 h2 hc1 hc2
    go_enter Tryd.func20, Tryd.ntmps20
    go_wp2
    go_loopw [13] (fun i wr => ∃ k : Nat, i = .int .i64 k ∧ k ≤ l.length ∧ New w wr) (fun i _ => l.length - (intOf i).toNat)
    case atStart => exact ⟨0, rfl, by omega, Mod.refl _ _⟩
    case round =>
      obtain ⟨k, rfl, hk, hn⟩ := hrel
      have HN := hid hn
      clear hn
      by_cases hlt : k < l.length
      · have hltI : (k : Int) < (l.length : Int) := by omega
        have g1 := HN.out.cellv (HC1.out k hlt)
        have g2 := HN.out.cellv (HC2.out k hlt)
        obtain ⟨x, hx⟩ : ∃ x, x = l[k] := ⟨_, rfl⟩
        rw [← hx] at g1 g2
        have hxx : (x.toList == x.toList) = true := by rw [beq_iff_eq]
        clear hx
        go_wp2
        go_region
        go_wp2
        go_roundw
        case rel => exact ⟨k + 1, by simp, by omega, HN.out.drew⟩
        case measure => simp [intOf]; omega
      · go_wp2
        go_ret
        exact ⟨rfl, HN.out⟩
set_option maxRecDepth 100000 in
set_option maxHeartbeats 4000000 in
theorem same_eq (m : MsgV) (a1 a2 : Option Addr) (c1 c2 : Nat) (w : World) (h1 : StrsAt w a1 c1 m.names) (h2 : StrsAt w a2 c2 m.names) : Calls Tryd.prog 10 #[msgV a1 c1 m, msgV a2 c2 m] w fun e w' => e = .returned (.bool true) ∧ New w w' := by
  have HST := hid (fun W (n : New w W) => sameTexts_eq a1 a2 c1 c2 m.names W (h1.new n) (h2.new n))
  have hbb : (m.cookie.toList == m.cookie.toList) = true := by rw [beq_iff_eq]
  have hpp : (m.port == m.port) = true := by rw [beq_iff_eq]
  clear h1 h2
  unfold msgV
  go_enter Tryd.func10, Tryd.ntmps10
  go_wp2_with fail
  refine (HST.out _ (((Mod.refl _ _).alloc _).alloc _)).mono ?_
  rintro e w1 ⟨rfl, n1⟩
  have N1 := hid n1
  clear n1
  go_wp2
  go_ret
  exact ⟨rfl, (((Mod.refl _ w).alloc _).alloc _ : New w _).trans N1.out⟩
def exA : ByteArray := ⟨#[97, 97, 97, 97, 97, 97, 97, 97, 97, 97, 97, 97, 97, 97, 97, 97, 97, 97, 97, 97]⟩
def exM : MsgV := ⟨6881, [exA], ⟨#[99]⟩⟩
theorem exM_valid : validM exM = true := by decide +kernel
theorem exM_port : Lib.itoa 6881 = [54, 56, 56, 49] := by
  rw [show (6881 : Int) = ((6881 : Nat) : Int) by rfl, Lib.itoa_nonneg, Lib.decDigits, dif_neg (by omega), Lib.decDigits, dif_neg (by omega), Lib.decDigits, dif_neg (by omega), Lib.decDigits_one (by omega)]
  rfl
def exW : List UInt8 := firstL ++ [13, 10] ++ portL ++ [54, 56, 56, 49] ++ [13, 10] ++ [exA].flatMap (fun n => nameLn n ++ [13, 10]) ++ (cookLn ⟨#[99]⟩ ++ [13, 10, 13, 10])
theorem exM_written : writtenL exM = exW := by
  rw [written_flat]
  show firstL ++ [13, 10] ++ portL ++ Lib.itoa 6881 ++ _ ++ _ ++ _ = _
  rw [exM_port]
  rfl
theorem exM_fmt : fmtB exM = mkB exW ∧ fmtE exM = 0 := by
  unfold fmtB fmtE
  rw [exM_valid, exM_written]
  exact ⟨rfl, rfl⟩
set_option maxRecDepth 100000 in
set_option maxHeartbeats 4000000 in
theorem awake23_any (w : World) (ht : Tab w) : Calls Tryd.prog 4 #[] w fun e w' => e = .returned (.bool true) ∧ New w w' := by
  have HA := hid (fun W (n : New w W) a c h => Format_any exM a c W h (ht.new n))
  rw [exM_fmt.1, exM_fmt.2] at HA
  obtain ⟨S, hS⟩ : ∃ S, S = mkB exW := ⟨_, rfl⟩
  have hsz : S.size = 89 := by rw [hS]; rfl
  have hsl : (S.extract 0 28).toList = [67, 65, 76, 76, 32, 42, 32, 67, 79, 86, 69, 89, 47, 49, 13, 10, 80, 111, 114, 116, 58, 32, 54, 56, 56, 49, 13, 10] := by
    rw [ByteArray.toList_eq, hS]
    rfl
  rw [← hS] at HA
  clear ht hS
  go_enter Tryd.func4, Tryd.ntmps4
  go_wp2_with fail
  have hlies : StrsAt (w.alloc (.cells #[.string exA] 9)) (some ⟨w.heap.size, 0, none⟩) 1 [exA] :=
    ⟨Nat.le_refl _, by simp [maxLen], fun x hx => by simp at hx; subst hx; decide, .inr ⟨_, 0, rfl, by simp, fun i x hx => by
      match i, hx with
      | 0, hx => simp at hx; subst hx; exact (Blk.new w #[.string exA] 9).cellv 0 rfl
      | i + 1, hx => simp at hx⟩⟩
  refine (HA.out _ ((Mod.refl _ _).alloc _) (some ⟨w.heap.size, 0, none⟩) 1 ⟨by decide, hlies, by decide⟩).mono ?_
  rintro e w1 ⟨rfl, n1⟩
  have N1 : Hid (New w w1) := hid (((Mod.refl _ w).alloc (.cells #[.string exA] 9)).trans n1)
  clear n1 hlies
  go_wp2
  go_ret
  exact ⟨rfl, N1.out⟩
end Go.Proofs.YtnflhjagmngimaaDoor
