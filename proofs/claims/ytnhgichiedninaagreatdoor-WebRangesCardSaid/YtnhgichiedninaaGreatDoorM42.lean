/-
  Several texts in one, in their build order. The library's FormatInt at base 16, of the numbers 256 to 511. Condition: the library's table of trailing zeros is as laid.
-/
import Derived.Test.YtnhgichiedninaaGreatDoorM34
import Derived.Test.YtnhgichiedninaaGreatDoorM6
namespace Go.Proofs.YtnhgichiedninaaGreatDoor
set_option linter.unusedSimpArgs false
set_option linter.unusedVariables false
open Go.RowKit Go.Shelf

theorem bytes_ext3 {a : ByteArray} {l : List UInt8} (h : a.data.toList = l) : a = ⟨l.toArray⟩ := by
  apply ByteArray.ext
  apply Array.toList_inj.1
  rw [h]
def TzAt (w : World) : Prop := w.cell? ⟨6, 15, none⟩ = some (.int .u8 4)
theorem TzAt.new {w w' : World} (h : TzAt w) (n : New w w') : TzAt w' := n.cellv h
def lowDigits : List UInt8 := [48, 49, 50, 51, 52, 53, 54, 55, 56, 57, 97, 98, 99, 100, 101, 102]
def lowD (n : Nat) : UInt8 := lowDigits.getD n 0
theorem tz16 (w : World) (h : TzAt w) : Calls Tryz.prog 191 #[.int .u64 16] w fun e w' => e = .returned (.int .i64 4) ∧ w = w' := by
  have hx : (IntKind.u64.wrap (bits BinOp.and IntKind.u64 16 (IntKind.u64.wrap (-16)) * 285870213051353865) / 288230376151711744).toNat = 15 := by decide +kernel
  have h : w.cell? ⟨6, (IntKind.u64.wrap (bits BinOp.and IntKind.u64 16 (IntKind.u64.wrap (-16)) * 285870213051353865) / 288230376151711744).toNat, none⟩ = some (.int .u8 4) := by rw [hx]; exact h
  clear hx
  go_enter Tryz.func191, Tryz.ntmps191
  go_wp2
  go_ret
  exact ⟨rfl, rfl⟩
theorem tz (w : World) (h : TzAt w) : Calls Tryz.prog 182 #[.int .u64 16] w fun e w' => e = .returned (.int .i64 4) ∧ w = w' := by
  have H := hid (tz16 w h)
  go_enter Tryz.func182, Tryz.ntmps182
  go_wp2_with fail
  refine H.out.mono ?_
  rintro e w1 ⟨rfl, rfl⟩
  go_wp2
  go_ret
  exact ⟨rfl, rfl⟩
theorem pow2 (w : World) : Calls Tryz.prog 181 #[.int .i64 16] w fun e w' => e = .returned (.bool true) ∧ w = w' := by
  go_enter Tryz.func181, Tryz.ntmps181
  go_wp2
  go_ret
  exact ⟨rfl, rfl⟩
def dig36 : ByteArray := ⟨#[48, 49, 50, 51, 52, 53, 54, 55, 56, 57, 97, 98, 99, 100, 101, 102, 103, 104, 105, 106, 107, 108, 109, 110, 111, 112, 113, 114, 115, 116, 117, 118, 119, 120, 121, 122]⟩
theorem dig_at (n : Nat) (h : n < 16) (h2 : n < dig36.size) : dig36[n] = lowD n := by
  have h3 : ∀ n : Nat, n < 16 → dig36.data.toList[n]? = some (lowD n) := by decide +kernel
  have := h3 n h
  rw [List.getElem?_eq_getElem (by rw [Array.length_toList]; exact h2)] at this
  exact Option.some.inj this
theorem three_bytes (w : World) (b : Nat) (z : Array Value) (hz : z.size = 65) (hb : Blk w b z 246) (x y v : UInt8) :
    (convert 83 9 (.slice (some ⟨b, 62, none⟩) 3 3)).run Tryz.prog (((w.setCell ⟨b, 64, none⟩ (.int .u8 v.toNat)).setCell ⟨b, 63, none⟩ (.int .u8 y.toNat)).setCell ⟨b, 62, none⟩ (.int .u8 x.toNat)) =
      .ok (.string ⟨#[x, y, v]⟩) (((w.setCell ⟨b, 64, none⟩ (.int .u8 v.toNat)).setCell ⟨b, 63, none⟩ (.int .u8 y.toNat)).setCell ⟨b, 62, none⟩ (.int .u8 x.toNat)) := by
  have hB := ((hb.set 64 (.int .u8 v.toNat)).set 63 (.int .u8 y.toNat)).set 62 (.int .u8 x.toNat)
  have := run_convert_bytes_arg (P := Tryz.prog) (((w.setCell ⟨b, 64, none⟩ (.int .u8 v.toNat)).setCell ⟨b, 63, none⟩ (.int .u8 y.toNat)).setCell ⟨b, 62, none⟩ (.int .u8 x.toNat)) 83 5 Tryz.underlying83 Tryz.underlying5 b 62 3 3 [(x.toNat : Int), (y.toNat : Int), (v.toNat : Int)] rfl (fun i hi => by
    rw [hB.cell]
    match i, hi with
    | 0, _ => simp [hz]
    | 1, _ => simp [hz]
    | 2, _ => simp [hz]) 9 Tryz.underlying9
  rw [this]
  simp [strOfNums]
set_option maxRecDepth 100000 in
set_option maxHeartbeats 4000000 in
theorem fbits (c : UInt8) (w : World) (h : TzAt w) : Calls Tryz.prog 170 #[.slice none 0 0, .int .u64 (256 + c.toNat), .int .i64 16, .bool false, .bool false] w fun e w' => e = .returned (.tuple #[.slice none 0 0, .string ⟨#[49, lowD (c.toNat / 16), lowD (c.toNat % 16)]⟩]) ∧ New w w' := by
  obtain ⟨H, hH⟩ : ∃ H : Nat, H = c.toNat / 16 := ⟨_, rfl⟩
  obtain ⟨L, hL⟩ : ∃ L : Nat, L = c.toNat % 16 := ⟨_, rfl⟩
  have hc : c.toNat < 256 := c.toNat_lt
  have hHL : c.toNat = 16 * H + L := by omega
  have hH16 : H < 16 := by omega
  have hL16 : L < 16 := by omega
  rw [← hH, ← hL, hHL]
  have HP := hid (fun w => pow2 w)
  have HT := hid (fun W (n : New w W) => tz W (h.new n))
  clear hH hL hHL hc h c
  go_enter Tryz.func170, Tryz.ntmps170
  go_wp2_with fail
  refine (HP.out _).mono ?_
  rintro e w1 ⟨rfl, rfl⟩
  go_wp2_with fail
  refine (HT.out _ ((Mod.refl _ _).alloc _)).mono ?_
  rintro e w1 ⟨rfl, rfl⟩
  have HB := hid (Blk.new w Tryz.zeroCells246 246)
  have HN := hid ((Mod.refl _ w).alloc (.cells Tryz.zeroCells246 246) : New w _)
  have hz : (Tryz.zeroCells246).size = 65 := by kernel_rfl
  go_wp2
  obtain ⟨z, hzz⟩ : ∃ z, z = Tryz.zeroCells246 := ⟨_, rfl⟩
  obtain ⟨w2, hw2⟩ : ∃ w2, w2 = w.alloc (.cells Tryz.zeroCells246 246) := ⟨_, rfl⟩
  rw [← hw2] at HB HN
  rw [← hw2]
  rw [← hzz] at HB hz
  obtain ⟨b, hb⟩ : ∃ b, b = w.heap.size := ⟨_, rfl⟩
  have HWB := hid (show w.heap.size ≤ b by omega)
  rw [← hb] at HB
  rw [← hb]
  clear hw2 hzz hb HP HT
  obtain ⟨U, hU⟩ : ∃ U : Int, U = 256 + (16 * (H : Int) + (L : Int)) := ⟨_, rfl⟩
  obtain ⟨V, hV⟩ : ∃ V : Int, V = 16 + (H : Int) := ⟨_, rfl⟩
  have d1 : U / 16 = V := by omega
  have d2 : V / 16 = 1 := by omega
  have c1 : (16 : Int) ≤ U := by omega
  have c2 : (16 : Int) ≤ V := by omega
  have m1 : bits .and .u64 U 15 = (L : Int) := by
    have h : ∀ n : Nat, n < 256 → bits .and .u64 (256 + (n : Int)) 15 = ((n % 16 : Nat) : Int) := by decide +kernel
    have := h (16 * H + L) (by omega)
    rw [show (16 * H + L) % 16 = L by omega] at this
    rw [hU, show (16 * (H : Int) + (L : Int)) = ((16 * H + L : Nat) : Int) by simp]
    exact this
  have m2 : bits .and .u64 V 15 = (H : Int) := by
    have h : ∀ n : Nat, n < 16 → bits .and .u64 (16 + (n : Int)) 15 = (n : Int) := by decide +kernel
    rw [hV]
    exact h H hH16
  rw [← hU]
  obtain ⟨y64, c64⟩ : ∃ y, w2.cell? ⟨b, 64, none⟩ = some y := ⟨z[64]'(by omega), by rw [HB.out.cell]; exact Array.getElem?_eq_getElem _⟩
  obtain ⟨y63, c63⟩ : ∃ y, w2.cell? ⟨b, 63, none⟩ = some y := ⟨z[63]'(by omega), by rw [HB.out.cell]; exact Array.getElem?_eq_getElem _⟩
  obtain ⟨y62, c62⟩ : ∃ y, w2.cell? ⟨b, 62, none⟩ = some y := ⟨z[62]'(by omega), by rw [HB.out.cell]; exact Array.getElem?_eq_getElem _⟩
  have hf := HB.out.frz
  have hbl := HB.out.lt
  have iL : (L : Int) < 36 := by omega
  have iH : (H : Int) < 36 := by omega
  have hcv := three_bytes w2 b z hz HB.out 49 (lowD H) (lowD L)
  have b1 : L < dig36.size := by show L < 36; omega
  have b2 : H < dig36.size := by show H < 36; omega
  have b3 : 1 < dig36.size := by show 1 < 36; omega
  have e1 := dig_at L hL16 b1
  have e2 := dig_at H hH16 b2
  have e3 := dig_at 1 (by omega) b3
  have e4 : lowD 1 = 49 := rfl
  rw [e4] at e3
  unfold dig36 at e1 e2 e3
  have HZ := hid hz
  clear hU hV hz e4
  refine wp_loop_rounds 3 ?_
  rw [rounds_succ]
  go_wp2
  rw [rounds_succ]
  go_wp2
  rw [rounds_succ]
  go_wp2
  erw [e1, e2, e3]
  erw [hcv]
  clear hcv
  go_wp2
  go_ret2
  exact ⟨rfl, ((HN.out.set _ _ (.inr HWB.out)).set _ _ (.inr HWB.out)).set _ _ (.inr HWB.out)⟩
theorem fmt16i (c : UInt8) (w : World) (h : TzAt w) : Calls Tryz.prog 146 #[.int .i64 (c.toNat + 256), .int .i64 16] w fun e w' => e = .returned (.string ⟨#[49, lowD (c.toNat / 16), lowD (c.toNat % 16)]⟩) ∧ New w w' := by
  have hb := fbits c w h
  rw [Int.add_comm] at hb
  have HB := hid hb
  have hc : (c.toNat : Int) < 256 := by have := c.toNat_lt; omega
  clear hb h
  go_enter Tryz.func146, Tryz.ntmps146
  go_wp2_with fail
  refine HB.out.mono ?_
  rintro e w1 ⟨rfl, n1⟩
  have N1 := hid n1
  clear n1
  go_wp2
  go_ret
  exact ⟨rfl, N1.out⟩
theorem fmt16 (c : UInt8) (w : World) (h : TzAt w) : Calls Tryz.prog 138 #[.int .i64 (c.toNat + 256), .int .i64 16] w fun e w' => e = .returned (.string ⟨#[49, lowD (c.toNat / 16), lowD (c.toNat % 16)]⟩) ∧ New w w' := by
  have HB := hid (fmt16i c w h)
  clear h
  go_enter Tryz.func138, Tryz.ntmps138
  go_wp2_with fail
  refine HB.out.mono ?_
  rintro e w1 ⟨rfl, n1⟩
  have N1 := hid n1
  clear n1
  go_wp2
  go_ret
  exact ⟨rfl, N1.out⟩
def alpha66 : List UInt8 := [97, 98, 99, 100, 101, 102, 103, 104, 105, 106, 107, 108, 109, 110, 111, 112, 113, 114, 115, 116, 117, 118, 119, 120, 121, 122, 65, 66, 67, 68, 69, 70, 71, 72, 73, 74, 75, 76, 77, 78, 79, 80, 81, 82, 83, 84, 85, 86, 87, 88, 89, 90, 48, 49, 50, 51, 52, 53, 54, 55, 56, 57, 45, 46, 95, 126, 47]
theorem alpha_plain (c : UInt8) : decide (0 ≤ Lib.indexByte alpha66 c) = plainB c := by
  have h : ∀ n : Nat, n < 256 → decide (0 ≤ Lib.indexByte alpha66 (UInt8.ofNat n)) = plainB (UInt8.ofNat n) := by decide +kernel
  have := h c.toNat c.toNat_lt
  rwa [UInt8.ofNat_toNat] at this
theorem contains_alpha (X : ByteArray) (hX : X.data.toList = alpha66) (c : UInt8) (w : World) : Calls Tryz.prog 136 #[.string X, .string ⟨#[c]⟩] w fun e w' => e = .returned (.bool (plainB c)) ∧ w = w' :=
  (Tryz.strings_Contains_one X c w).mono fun e w' ⟨he, hw⟩ => ⟨by rw [he, hX, alpha_plain], hw.symm⟩
theorem upper_low {H L : Nat} (hH : H < 16) (hL : L < 16) : Lib.toUpperA [lowD H, lowD L] = [hexD H, hexD L] := by
  have h : ∀ n : Nat, n < 16 → ∀ m : Nat, m < 16 → Lib.toUpperA [lowD n, lowD m] = [hexD n, hexD m] := by decide +kernel
  exact h H hH L hL
theorem low_ascii (n : Nat) (h : n < 16) : (lowD n).toNat < 128 := by
  have h2 : ∀ n : Nat, n < 16 → (lowD n).toNat < 128 := by decide +kernel
  exact h2 n h
theorem toupper (H L : Nat) (hH : H < 16) (hL : L < 16) (w : World) : Calls Tryz.prog 137 #[.string ⟨#[lowD H, lowD L]⟩] w fun e w' => e = .returned (.string ⟨#[hexD H, hexD L]⟩) ∧ New w w' := by
  refine (Tryz.strings_ToUpper_ascii ⟨#[lowD H, lowD L]⟩ w (by show 2 ≤ _; omega) (fun j b hb => ?_)).mono fun e w' ⟨he, hw⟩ => ⟨?_, New.of_below hw⟩
  · match j, hb with
    | 0, hb => simp at hb; rw [← hb]; exact low_ascii _ hH
    | 1, hb => simp at hb; rw [← hb]; exact low_ascii _ hL
  · rw [he]
    show Ending.returned (.string ⟨(Lib.toUpperA [lowD H, lowD L]).toArray⟩) = _
    rw [upper_low hH hL]
theorem one_cut (s : ByteArray) (k : Nat) (hk : k < s.size) : s.extract k (k + 1) = ⟨#[s[k]]⟩ := by
  apply ByteArray.ext
  apply Array.toList_inj.1
  rw [ByteArray.data_extract, Array.toList_extract]
  have hl : s.data.toList.length = s.size := by rw [Array.length_toList]; rfl
  show (s.data.toList.drop k).take (k + 1 - k) = _
  rw [show k + 1 - k = 1 by omega, List.drop_eq_getElem_cons (by omega), List.take_succ_cons, List.take_zero]
  rfl
set_option maxRecDepth 100000 in
set_option maxHeartbeats 4000000 in
theorem rescaped_any (s : ByteArray) (w : World) (hs : s.size ≤ 4000000) (ht : TzAt w) : Calls Tryz.prog 92 #[.string s] w fun e w' => e = .returned (.string ⟨(escOf s.data.toList).toArray⟩) ∧ New w w' := by
  have HT := hid (fun W (n : New w W) => ht.new n)
  obtain ⟨X, hX⟩ : ∃ X, X = escOf s.data.toList := ⟨_, rfl⟩
  rw [← hX]
  have HX := hid hX
  have hlen : s.data.toList.length = s.size := by rw [Array.length_toList]; rfl
  clear hX ht
  go_enter Tryz.func92, Tryz.ntmps92
  go_wp2
  go_loopw [8, 3] (fun x ov wr => ∃ (k : Nat) (o : ByteArray), x = .int .i64 k ∧ ov = .string o ∧ k ≤ s.size ∧ o.data.toList = escOf (s.data.toList.take k) ∧ New w wr) (fun x _ _ => s.size - (intOf x).toNat)
  case atStart => exact ⟨0, _, rfl, rfl, by omega, by rw [List.take_zero]; rfl, Mod.refl _ _⟩
  case round =>
    obtain ⟨k, o, rfl, rfl, hk, ho, hn⟩ := hrel
    have HN := hid hn
    by_cases hlt : k < s.size
    · have hltI : (k : Int) < (s.size : Int) := by omega
      have hb := byte_at2 s hlt
      have HNX := hid (escOf_next (l := s.data.toList) (k := k) (by omega))
      have hacc := escOf_len (s.data.toList.take k)
      rw [List.length_take, ← ho] at hacc
      have hos : o.data.toList.length = o.size := by rw [Array.length_toList]; rfl
      have hos2 : o.size ≤ 12000000 := by omega
      rw [← ho, hb] at HNX
      have hcut := one_cut s k hlt
      have hkI : (k : Int) + 1 ≤ (s.size : Int) := by omega
      clear hacc hos hn ho hb
      cases hp : plainB s[k] with
      | true =>
        rw [escB, hp, if_pos rfl] at HNX
        have HCN := hid (fun X hX w => hp ▸ contains_alpha X hX s[k] w)
        clear hp
        go_wp2_with fail
        refine (HCN.out _ (by rfl) _).mono ?_
        rintro e w1 ⟨rfl, rfl⟩
        go_wp2
        exact ⟨⟨k + 1, o ++ ⟨#[s[k]]⟩, by simp, rfl, by omega, by rw [HNX.out]; simp, HN.out⟩, by simp [intOf]; omega⟩
      | false =>
        rw [escB, hp, if_neg (by decide)] at HNX
        have HCN := hid (fun X hX w => hp ▸ contains_alpha X hX s[k] w)
        have HF := hid (fun W (n : New w W) => fmt16 s[k] W (HT.out W n))
        obtain ⟨H, hH⟩ : ∃ H : Nat, H = s[k].toNat / 16 := ⟨_, rfl⟩
        obtain ⟨L, hL⟩ : ∃ L : Nat, L = s[k].toNat % 16 := ⟨_, rfl⟩
        have hH16 : H < 16 := by have := s[k].toNat_lt; omega
        have hL16 : L < 16 := by omega
        have hcI : (s[k].toNat : Int) < 256 := by have := s[k].toNat_lt; omega
        rw [← hH, ← hL] at HNX HF
        have HU := hid (fun W => toupper H L hH16 hL16 W)
        have hx13 : (⟨#[49, lowD H, lowD L]⟩ : ByteArray).extract 1 3 = ⟨#[lowD H, lowD L]⟩ := rfl
        clear hH hL hp
        go_wp2_with fail
        refine (HCN.out _ (by rfl) _).mono ?_
        rintro e w1 ⟨rfl, rfl⟩
        go_wp2_with fail
        refine (HF.out _ HN.out).mono ?_
        rintro e w1 ⟨rfl, n1⟩
        have N1 := hid (HN.out.trans n1)
        clear n1
        go_wp2_with fail
        refine (HU.out _).mono ?_
        rintro e w2 ⟨rfl, n2⟩
        have N2 := hid (N1.out.trans n2)
        clear n2
        have a1 : ∀ w, (Op.stringOp .add ⟨#[37]⟩ ⟨#[hexD H, hexD L]⟩).run Tryz.prog w = .ok (.string ⟨#[37, hexD H, hexD L]⟩) w := fun w => run_string_add_sum (w := w) _ _ (by show 1 + 2 ≤ _; omega)
        have a2 : ∀ w, (Op.stringOp .add o ⟨#[37, hexD H, hexD L]⟩).run Tryz.prog w = .ok (.string (o ++ ⟨#[37, hexD H, hexD L]⟩)) w := fun w => run_string_add_sum (w := w) _ _ (by show o.size + 3 ≤ _; omega)
        go_wp2
        exact ⟨⟨k + 1, o ++ ⟨#[37, hexD H, hexD L]⟩, by simp, rfl, by omega, by rw [HNX.out]; simp, N2.out⟩, by simp [intOf]; omega⟩
    · have hjl : s.data.toList.take k = s.data.toList := List.take_of_length_le (by omega)
      rw [hjl, ← HX.out] at ho
      have HO := hid ho
      clear hjl hn ho
      go_wp2
      go_ret
      exact ⟨ret_str (bytes_ext3 HO.out), HN.out⟩
end Go.Proofs.YtnhgichiedninaaGreatDoor
