/-
  The walk of web.escaped. Condition: the text is small.
-/
import Derived.Test.YtnhgichiedninaaDoorWe
import Derived.StillTailTactics
namespace Go.Proofs.YtnhgichiedninaaDoor
set_option linter.unusedSimpArgs false
set_option linter.unusedVariables false
open Go.RowKit Go.Shelf

theorem byte_at2 (t : ByteArray) {k : Nat} (h : k < t.size) : t.data.toList[k]'(by rw [Array.length_toList]; exact h) = t[k] := rfl
theorem and_low (c : UInt8) : bits .and .u8 (c.toNat : Int) 15 = ((c.toNat % 16 : Nat) : Int) := by
  have h : ∀ n : Nat, n < 256 → bits .and .u8 (n : Int) 15 = ((n % 16 : Nat) : Int) := by decide +kernel
  exact h _ c.toNat_lt
def hexStr : ByteArray := ⟨#[48, 49, 50, 51, 52, 53, 54, 55, 56, 57, 65, 66, 67, 68, 69, 70]⟩
theorem hex_cut {n : Nat} (h : n < 16) : hexStr.extract n (n + 1) = ⟨#[hexD n]⟩ := by
  have h : ∀ n : Nat, n < 16 → (hexStr.extract n (n + 1)).data.toList = [hexD n] := by decide +kernel
  have := h n (by assumption)
  apply ByteArray.ext
  apply Array.toList_inj.1
  rw [this]
set_option maxRecDepth 100000 in
set_option maxHeartbeats 4000000 in
theorem escaped_any (s : ByteArray) (w : World) (hs : s.size ≤ 4000000) : Calls Tryd.prog 25 #[.string s] w fun e w' => e = .returned (.string ⟨(escOf s.data.toList).toArray⟩) ∧ New w w' := by
  have HP := hid (plain_any w)
  obtain ⟨X, hX⟩ : ∃ X, X = escOf s.data.toList := ⟨_, rfl⟩
  rw [← hX]
  have HX := hid hX
  have hlen : s.data.toList.length = s.size := by rw [Array.length_toList]; rfl
  clear hX
  go_enter Tryd.func25, Tryd.ntmps25
  go_wp2_with fail
  refine HP.out.mono ?_
  rintro e w1 ⟨rfl, n1⟩
  have N1 := hid n1
  clear n1
  go_wp2_with (refine wpList_store_row (o := ⟨none, _, _, _, _, _⟩) rfl _ _ _ rfl w1.heap.size plainArr rfl rfl _ _ (Blk.new w1 _ _) ?hi2 ?hi3 ?hi4 ?_)
  case hi2 => rw [plainArr_size]; exact info_arr
  case hi3 => rw [plainArr_size]; kernel_rfl
  case hi4 => exact plainArr_one
  have HB1 := hid ((Blk.new w1 Tryd.zeroCells56 56).setRow plainArr)
  have HN := hid ((N1.out.alloc (.cells Tryd.zeroCells56 56)).setRow w1.heap.size plainArr (.inr N1.out.size))
  obtain ⟨w2, hw2⟩ : ∃ w2, w2 = (w1.alloc (.cells Tryd.zeroCells56 56)).setRow w1.heap.size plainArr := ⟨_, rfl⟩
  have hz2 : w2.heap.size = w1.heap.size + 1 := by rw [hw2]; simp
  rw [← hw2] at HB1 HN
  rw [← hw2]
  obtain ⟨b1, hb1⟩ : ∃ b1, b1 = w1.heap.size := ⟨_, rfl⟩
  have HWB := hid (show w.heap.size ≤ b1 by rw [hb1]; exact N1.out.size)
  rw [← hb1] at HB1 hz2
  rw [← hb1]
  have HZ2 := hid hz2
  have HFR := hid (Bld.freshAt (w := w2) (b := b1 + 1) hz2.symm)
  clear hw2 hb1 hz2 N1
  go_loopw [9] (fun x wr => ∃ (k : Nat), x = .int .i64 k ∧ k ≤ s.size ∧ Bld wr (b1 + 1) (escOf (s.data.toList.take k)) ∧ Blk wr b1 plainArr 56 ∧ New w wr) (fun x _ => s.size - (intOf x).toNat)
  case atStart => exact ⟨0, rfl, by omega, by rw [List.take_zero]; exact HFR.out, HB1.out.alloc _, HN.out.alloc _⟩
  case round =>
    clear HFR HB1 HN
    obtain ⟨k, rfl, hk, hbl, hb1, hn⟩ := hrel
    have HBL := hid hbl; have HB1 := hid hb1; have HN := hid hn
    by_cases hlt : k < s.size
    · have hltI : (k : Int) < (s.size : Int) := by omega
      have hb := byte_at2 s hlt
      have HNX := hid (escOf_next (l := s.data.toList) (k := k) (by omega))
      have hacc := escOf_len (s.data.toList.take k)
      rw [List.length_take] at hacc
      obtain ⟨acc, hac⟩ : ∃ acc, acc = escOf (s.data.toList.take k) := ⟨_, rfl⟩
      rw [← hac, hb] at HNX
      rw [← hac] at HBL hacc
      obtain ⟨c, hc⟩ : ∃ c, c = s[k] := ⟨_, rfl⟩
      have hcell : wr.cell? ⟨b1, c.toNat, none⟩ = some (.bool (plainB c)) := by rw [hb1.cell]; exact plainArr_at c
      have hcI : (c.toNat : Int) < 256 := by have := c.toNat_lt; omega
      have hbw := hb1.lt
      have HC := hid hc
      clear hbl hb1 hn hac hb
      cases hp : plainB c with
      | true =>
        rw [hp] at hcell
        have hp' := hp
        rw [hc] at hcell hcI hp'
        rw [escB, hp', if_pos rfl] at HNX
        clear hp hp'
        go_wp2_with fail
        refine (byte_any (b1 + 1) acc s[k] _ HBL.out (by omega)).mono ?_
        rintro e w4 ⟨rfl, b4, n4⟩
        have B4 := hid b4
        have N4 := hid n4
        clear b4 n4
        go_wp2
        exact ⟨⟨k + 1, by simp, by omega, by rw [HNX.out]; exact B4.out, N4.out.blk HB1.out (by omega) (by decide), Wrote.new HN.out N4.out (by have := HWB.out; omega)⟩, by simp [intOf]; omega⟩
      | false =>
        rw [hp] at hcell
        have hp' := hp
        rw [hc] at hcell hcI hp'
        rw [escB, hp', if_neg (by decide)] at HNX
        clear hp hp'
        have eL := and_low s[k]
        obtain ⟨H, hH⟩ : ∃ H : Nat, H = s[k].toNat / 16 := ⟨_, rfl⟩
        obtain ⟨L, hL⟩ : ∃ L : Nat, L = s[k].toNat % 16 := ⟨_, rfl⟩
        have eH : (s[k].toNat : Int) / 16 = (H : Int) := by rw [hH]; rfl
        rw [← hL] at eL
        have hH16 : H < 16 := by have := s[k].toNat_lt; omega
        have hL16 : L < 16 := by omega
        rw [← hH, ← hL] at HNX
        have cH := hex_cut hH16; have cL := hex_cut hL16
        unfold hexStr at cH cL
        have iH : (H : Int) < 16 := by omega
        have iL : (L : Int) < 16 := by omega
        have wH : IntKind.u8.wrap ((H : Int) + 1) = (H : Int) + 1 := IntWalk.u8_in _ (by omega)
        have wL : IntKind.u8.wrap ((L : Int) + 1) = (L : Int) + 1 := IntWalk.u8_in _ (by omega)
        have nH : ((H : Int) + 1).toNat = H + 1 := by omega
        have nL : ((L : Int) + 1).toNat = L + 1 := by omega
        have pH : (H : Int) + 1 ≤ 16 := by omega
        have pL : (L : Int) + 1 ≤ 16 := by omega
        have a1 : ∀ w, (Op.stringOp .add ⟨#[37]⟩ ⟨#[hexD H]⟩).run Tryd.prog w = .ok (.string ⟨#[37, hexD H]⟩) w := fun w => run_string_add_sum (w := w) _ _ (by show 1 + 1 ≤ _; omega)
        have a2 : ∀ w, (Op.stringOp .add ⟨#[37, hexD H]⟩ ⟨#[hexD L]⟩).run Tryd.prog w = .ok (.string ⟨#[37, hexD H, hexD L]⟩) w := fun w => run_string_add_sum (w := w) _ _ (by show 2 + 1 ≤ _; omega)
        have k1 : H + 1 ≤ 16 := hH16
        have k2 : L + 1 ≤ 16 := hL16
        have k3 : H ≤ H + 1 := by omega
        have k4 : L ≤ L + 1 := by omega
        have k5 : (H : Int) ≤ (H : Int) + 1 := by omega
        have k6 : (L : Int) ≤ (L : Int) + 1 := by omega
        clear hH hL
        go_wp2
        go_still_tail 22, (by kernel_rfl)
        clear cH cL wH wL a1 a2 eH eL nH nL
        go_wp2_with (go_at_call 42; refine (write_any (b1 + 1) acc ⟨#[37, hexD H, hexD L]⟩ _ (HBL.out.new (Mod.refl _ _).drew) (by show acc.length + 3 ≤ _; omega)).mono ?_; rintro e w4 ⟨rfl, b4, n4⟩; have B4 := hid b4; have N4 := hid n4; clear b4 n4)
        exact ⟨⟨k + 1, by simp, by omega, by rw [HNX.out]; exact B4.out, N4.out.blk HB1.out.drew (by omega) (by decide), Wrote.new HN.out.drew N4.out (by have := HWB.out; omega)⟩, by simp [intOf]; omega⟩
    · have hjl : s.data.toList.take k = s.data.toList := List.take_of_length_le (by omega)
      rw [hjl, ← HX.out] at HBL
      clear hjl hbl hb1 hn
      go_wp2_with fail
      refine (string_any _ _ _ HBL.out).mono ?_
      rintro e w4 ⟨rfl, -, n4⟩
      have N4 := hid n4
      clear n4
      go_wp2
      go_ret
      exact ⟨rfl, Wrote.new HN.out N4.out (by have := HWB.out; omega)⟩
end Go.Proofs.YtnhgichiedninaaDoor
