/-
  The walks of Hex, of the program and of the reference: bytes in hexadecimal digits. Condition: the text is small.
-/
import Derived.Test.YtecjdppkpfpniaaGreatDoorLtB
import Derived.Test.YtecjdppkpfpniaaGreatDoorLtR
import Derived.Test.YtecjdppkpfpniaaGreatDoorQuiet
import Derived.Deep.RegionHeld3
import Derived.Deep.AppendLies
namespace Go.Proofs.YtecjdppkpfpniaaGreatDoor
set_option linter.unusedSimpArgs false
set_option linter.unusedVariables false
open Go.RowKit

theorem hex_next {l : List UInt8} {k : Nat} (h : k < l.length) : hexOf (l.take (k + 1)) = hexOf (l.take k) ++ [hexLow (l[k].toNat / 16), hexLow (l[k].toNat % 16)] := by
  rw [List.take_add_one, List.getElem?_eq_getElem h]
  unfold hexOf
  rw [List.flatMap_append]
  rfl
theorem byteAtL (t : ByteArray) {k : Nat} (h : k < t.size) : t.data.toList[k]'(by rw [Array.length_toList]; exact h) = t[k] := rfl
theorem and_lowL (c : UInt8) : bits .and .u8 (c.toNat : Int) 15 = ((c.toNat % 16 : Nat) : Int) := by
  have h : ∀ n : Nat, n < 256 → bits .and .u8 (n : Int) 15 = ((n % 16 : Nat) : Int) := by decide +kernel
  exact h _ c.toNat_lt
def hexLit : ByteArray := ⟨#[48, 49, 50, 51, 52, 53, 54, 55, 56, 57, 97, 98, 99, 100, 101, 102]⟩
theorem lit_at {n : Nat} (h : n < 16) : (hexLit[n]'(show n < 16 from h)) = hexLow n := by
  have h : ∀ m : _root_.Fin 16, (hexLit[m.val]'(show m.val < 16 from m.isLt)) = hexLow m.val := by decide +kernel
  exact h ⟨n, by assumption⟩
set_option maxRecDepth 100000 in
set_option maxHeartbeats 4000000 in
theorem hex_any (s : ByteArray) (w : World) (hs : s.size ≤ 70000) : Calls Tryz.prog 73 #[.string s] w fun e w' => e = .returned (.string ⟨(hexOf s.data.toList).toArray⟩) ∧ New w w' := by
  have hlen : s.data.toList.length = s.size := by rw [Array.length_toList]; rfl
  obtain ⟨i0, hi, hz0, hz1, hz2⟩ := info_parts info_byte
  go_enter Tryz.func73, Tryz.ntmps73
  go_wp2_with (refine wpList_make_own _ rfl _ _ _ rfl w.heap.size 5 i0 (.int .u8 0) 1 Tryz.underlying59 hi hz0 hz1 .i64 .i64 _ (2 * s.size) rfl rfl ?m1 ?m2 ?m3 ?m4 ?_)
  case m1 => push_cast; omega
  case m2 => rw [hz2]; omega
  case m3 => unfold maxLen; omega
  case m4 => exact Nat.le_refl _
  intro w1 r1 g1
  have HO1 : Hid (OwnY w1 w.heap.size (.slice (some ⟨w.heap.size, 0, none⟩) 0 (2 * s.size)) []) := hid r1
  have HN1 : Hid (New w w1) := hid ⟨g1.os, g1.tape, g1.output, g1.size, fun k hk _ => g1.block k hk (by simp)⟩
  clear r1 g1
  go_wp2
  go_loopw [3, 11] (fun v i wr => ∃ (k : Nat) (o : Value), o = v ∧ i = .int .i64 k ∧ k ≤ s.size ∧ OwnY wr w.heap.size o (hexOf (s.data.toList.take k)) ∧ New w wr) (fun _ i _ => s.size - (intOf i).toNat)
  case atStart => exact ⟨0, _, rfl, rfl, by omega, HO1.out, HN1.out⟩
  case round =>
    clear HO1 HN1
    obtain ⟨k, o, rfl, rfl, hk, ho, hn⟩ := hrel
    have HO := hid ho; have HN := hid hn
    clear ho hn
    by_cases hlt : k < s.size
    · have HNX := hid (hex_next (l := s.data.toList) (k := k) (by omega))
      rw [byteAtL s hlt] at HNX
      have hltI : (k : Int) < (s.size : Int) := by omega
      have eL := and_lowL s[k]
      obtain ⟨H, hH⟩ : ∃ H : Nat, H = s[k].toNat / 16 := ⟨_, rfl⟩
      obtain ⟨L, hL⟩ : ∃ L : Nat, L = s[k].toNat % 16 := ⟨_, rfl⟩
      have eH : (s[k].toNat : Int) / 16 = (H : Int) := by rw [hH]; rfl
      try rw [← hL] at eL
      have eL2 : (s[k].toNat : Int) % 16 = (L : Int) := by rw [hL]; rfl
      have eQ : (s[k].toNat : Int).tdiv 16 = (H : Int) := by rw [Int.tdiv_eq_ediv_of_nonneg (by omega)]; exact eH
      have eR : (s[k].toNat : Int).tmod 16 = (L : Int) := by rw [Int.tmod_eq_emod_of_nonneg (by omega)]; exact eL2
      have hH16 : H < 16 := by have := s[k].toNat_lt; omega
      have hL16 : L < 16 := by omega
      rw [← hH, ← hL] at HNX
      have cH := lit_at hH16; have cL := lit_at hL16
      unfold hexLit at cH cL
      have iH : (H : Int) < 16 := by omega
      have eW : IntKind.u8.wrap (H : Int) = (H : Int) := IntWalk.u8_in _ (by omega)
      have eV : IntKind.u8.wrap (L : Int) = (L : Int) := IntWalk.u8_in _ (by omega)
      have iL : (L : Int) < 16 := by omega
      clear hH hL
      go_wp2
      have hlen2 : (hexOf (s.data.toList.take k)).length ≤ 140000 := by rw [hex_len, List.length_take]; omega
      have h63 : (hexOf (s.data.toList.take k)).length + 2 ≤ maxLen := by unfold maxLen; omega
      have hby : ((hexOf (s.data.toList.take k)).length + 2) * 1 ≤ 140737488355328 := by omega
      have hwb := HN.out.size
      have k1 : (0 : Int) ≤ (k : Int) := by omega
      have k2 : (0 : Int) ≤ (H : Int) := by omega
      have k3 : (0 : Int) ≤ (L : Int) := by omega
      go_region_held3 (fun w' => True) (trivial) ((refine step_append_lies _ (by rfl) _ _ _ (by rfl) w.heap.size 5 i0 (.int .u8 0) 1 1 Tryz.underlying59 hi hz0 hz1 hz2 (by rfl) (by omega) o _ _ (by rfl) (HO.out.new (((Mod.refl _ _).drew).alloc _)) ⟨wr.heap.size, 0, none⟩ 2 2 [.int .u8 ((hexLow H).toNat : Int), .int .u8 ((hexLow L).toNat : Int)] (by rfl) (by rfl) (World.news_of_block (heap_alloc_new _ _)) (by intro u hu; simp at hu; rcases hu with rfl | rfl <;> rfl) (by omega) h63 hby (by simp; omega) _ (by rfl) ?_; intro g cap w1 hown hgrow hat hglt))
      all_goals go_wp2
      all_goals exact ⟨⟨k + 1, _, rfl, by simp, by omega, by rw [HNX.out]; exact ownY_of [hexLow H, hexLow L] hown, new_grownY HO.out (Nat.le_refl _) HN.out ⟨hgrow.os, hgrow.tape, hgrow.output, Nat.le_trans (by simp) hgrow.size, fun q hq hx => (hgrow.block q (by simp; omega) hx).trans (Below.heap_alloc _ _ q (by simpa using hq))⟩⟩, by simp [intOf]; omega⟩
    · have hkl : s.data.toList.take k = s.data.toList := List.take_of_length_le (by omega)
      rw [hkl] at HO
      have HT := hid (ownY_text HO.out)
      have hcv := HT.out
      clear hkl
      go_wp2
      go_ret
      exact ⟨rfl, HN.out⟩
set_option maxRecDepth 100000 in
set_option maxHeartbeats 4000000 in
theorem rhex_any (s : ByteArray) (w : World) (hs : s.size ≤ 70000) : Calls Tryz.prog 80 #[.string s] w fun e w' => e = .returned (.string ⟨(hexOf s.data.toList).toArray⟩) ∧ New w w' := by
  have hlen : s.data.toList.length = s.size := by rw [Array.length_toList]; rfl
  obtain ⟨i0, hi, hz0, hz1, hz2⟩ := info_parts info_byte
  go_enter Tryz.func80, Tryz.ntmps80
  go_wp2_with (refine wpList_make_own _ rfl _ _ _ rfl w.heap.size 5 i0 (.int .u8 0) 1 Tryz.underlying59 hi hz0 hz1 .i64 .i64 _ (2 * s.size) rfl rfl ?m1 ?m2 ?m3 ?m4 ?_)
  case m1 => push_cast; omega
  case m2 => rw [hz2]; omega
  case m3 => unfold maxLen; omega
  case m4 => exact Nat.le_refl _
  intro w1 r1 g1
  have HO1 : Hid (OwnY w1 w.heap.size (.slice (some ⟨w.heap.size, 0, none⟩) 0 (2 * s.size)) []) := hid r1
  have HN1 : Hid (New w w1) := hid ⟨g1.os, g1.tape, g1.output, g1.size, fun k hk _ => g1.block k hk (by simp)⟩
  clear r1 g1
  go_wp2
  go_loopw [3, 11] (fun v i wr => ∃ (k : Nat) (o : Value), o = v ∧ i = .int .i64 k ∧ k ≤ s.size ∧ OwnY wr w.heap.size o (hexOf (s.data.toList.take k)) ∧ New w wr) (fun _ i _ => s.size - (intOf i).toNat)
  case atStart => exact ⟨0, _, rfl, rfl, by omega, HO1.out, HN1.out⟩
  case round =>
    clear HO1 HN1
    obtain ⟨k, o, rfl, rfl, hk, ho, hn⟩ := hrel
    have HO := hid ho; have HN := hid hn
    clear ho hn
    by_cases hlt : k < s.size
    · have HNX := hid (hex_next (l := s.data.toList) (k := k) (by omega))
      rw [byteAtL s hlt] at HNX
      have hltI : (k : Int) < (s.size : Int) := by omega
      skip
      obtain ⟨H, hH⟩ : ∃ H : Nat, H = s[k].toNat / 16 := ⟨_, rfl⟩
      obtain ⟨L, hL⟩ : ∃ L : Nat, L = s[k].toNat % 16 := ⟨_, rfl⟩
      have eH : (s[k].toNat : Int) / 16 = (H : Int) := by rw [hH]; rfl
      try rw [← hL] at eL
      have eL2 : (s[k].toNat : Int) % 16 = (L : Int) := by rw [hL]; rfl
      have eQ : (s[k].toNat : Int).tdiv 16 = (H : Int) := by rw [Int.tdiv_eq_ediv_of_nonneg (by omega)]; exact eH
      have eR : (s[k].toNat : Int).tmod 16 = (L : Int) := by rw [Int.tmod_eq_emod_of_nonneg (by omega)]; exact eL2
      have hH16 : H < 16 := by have := s[k].toNat_lt; omega
      have hL16 : L < 16 := by omega
      rw [← hH, ← hL] at HNX
      have cH := lit_at hH16; have cL := lit_at hL16
      unfold hexLit at cH cL
      have iH : (H : Int) < 16 := by omega
      have eW : IntKind.u8.wrap (H : Int) = (H : Int) := IntWalk.u8_in _ (by omega)
      have eV : IntKind.u8.wrap (L : Int) = (L : Int) := IntWalk.u8_in _ (by omega)
      have iL : (L : Int) < 16 := by omega
      clear hH hL
      go_wp2
      have hlen2 : (hexOf (s.data.toList.take k)).length ≤ 140000 := by rw [hex_len, List.length_take]; omega
      have h63 : (hexOf (s.data.toList.take k)).length + 2 ≤ maxLen := by unfold maxLen; omega
      have hby : ((hexOf (s.data.toList.take k)).length + 2) * 1 ≤ 140737488355328 := by omega
      have hwb := HN.out.size
      have k1 : (0 : Int) ≤ (k : Int) := by omega
      have k2 : (0 : Int) ≤ (H : Int) := by omega
      have k3 : (0 : Int) ≤ (L : Int) := by omega
      go_region_held3 (fun w' => True) (trivial) ((refine step_append_lies _ (by rfl) _ _ _ (by rfl) w.heap.size 5 i0 (.int .u8 0) 1 1 Tryz.underlying59 hi hz0 hz1 hz2 (by rfl) (by omega) o _ _ (by rfl) (HO.out.new (((Mod.refl _ _).drew).alloc _)) ⟨wr.heap.size, 0, none⟩ 2 2 [.int .u8 ((hexLow H).toNat : Int), .int .u8 ((hexLow L).toNat : Int)] (by rfl) (by rfl) (World.news_of_block (heap_alloc_new _ _)) (by intro u hu; simp at hu; rcases hu with rfl | rfl <;> rfl) (by omega) h63 hby (by simp; omega) _ (by rfl) ?_; intro g cap w1 hown hgrow hat hglt))
      all_goals go_wp2
      all_goals exact ⟨⟨k + 1, _, rfl, by simp, by omega, by rw [HNX.out]; exact ownY_of [hexLow H, hexLow L] hown, new_grownY HO.out (Nat.le_refl _) HN.out ⟨hgrow.os, hgrow.tape, hgrow.output, Nat.le_trans (by simp) hgrow.size, fun q hq hx => (hgrow.block q (by simp; omega) hx).trans (Below.heap_alloc _ _ q (by simpa using hq))⟩⟩, by simp [intOf]; omega⟩
    · have hkl : s.data.toList.take k = s.data.toList := List.take_of_length_le (by omega)
      rw [hkl] at HO
      have HT := hid (ownY_text HO.out)
      have hcv := HT.out
      clear hkl
      go_wp2
      go_ret
      exact ⟨rfl, HN.out⟩
end Go.Proofs.YtecjdppkpfpniaaGreatDoor
