/-
  The walk of Escape (package magnet). Condition: the text is small.
-/
import Derived.Test.YtecjdppkpfpniaaGreatDoorEsA
import Derived.Test.YtecjdppkpfpniaaGreatDoorHx
import Derived.Test.YtecjdppkpfpniaaGreatDoorBlf
import Derived.Test.YtecjdppkpfpniaaGreatDoorShelfW
namespace Go.Proofs.YtecjdppkpfpniaaGreatDoor
set_option linter.unusedSimpArgs false
set_option linter.unusedVariables false
open Go.RowKit Go.Shelf

theorem byteAtE (t : ByteArray) {k : Nat} (h : k < t.size) : t.data.toList[k]'(by rw [Array.length_toList]; exact h) = t[k] := rfl
theorem up_hex (c : UInt8) : Lib.toUpperA (hexOf [c]) = [upD (c.toNat / 16), upD (c.toNat % 16)] := by
  have h : ∀ n : Nat, n < 256 → Lib.toUpperA (hexOf [UInt8.ofNat n]) = [upD ((UInt8.ofNat n).toNat / 16), upD ((UInt8.ofNat n).toNat % 16)] := by decide +kernel
  have := h c.toNat c.toNat_lt
  rwa [UInt8.ofNat_toNat] at this
theorem one_cut (s : ByteArray) {k : Nat} (h : k < s.size) : (s.extract k (k + 1)).data.toList = [s[k]] := by
  rw [ByteArray.data_extract, Array.toList_extract, List.extract_eq_take_drop]
  rw [List.drop_eq_getElem_cons (by rw [Array.length_toList]; exact h), show k + 1 - k = 1 by omega]
  rfl
theorem hex_ascii (l : List UInt8) : ∀ (j : Nat) (b : UInt8), (⟨(hexOf l).toArray⟩ : ByteArray).data.toList[j]? = some b → b.toNat < 128 := by
  intro j b h
  have hm : b ∈ hexOf l := by simpa using List.mem_of_getElem? h
  have := hex_bytes hm
  omega
set_option maxRecDepth 100000 in
set_option maxHeartbeats 4000000 in
theorem escape_any (s : ByteArray) (w : World) (hs : s.size ≤ 4000000) : Calls Tryz.prog 21 #[.string s] w fun e w' => e = .returned (.string ⟨(eOf s.data.toList).toArray⟩) ∧ New w w' := by
  have HP := hid (fun c w => mplain_any c w)
  obtain ⟨X, hX⟩ : ∃ X, X = eOf s.data.toList := ⟨_, rfl⟩
  rw [← hX]
  have HX := hid hX
  have hlen : s.data.toList.length = s.size := by rw [Array.length_toList]; rfl
  have HFR := hid (Bld.fresh w)
  have HN0 : Hid (New w (w.alloc (.cells #[.pointer none, .slice none 0 0] 105))) := hid ((Mod.refl _ _).alloc _)
  clear hX
  go_enter Tryz.func21, Tryz.ntmps21
  go_wp2_with fail
  go_loopw [7] (fun x wr => ∃ (k : Nat), x = .int .i64 k ∧ k ≤ s.size ∧ Bld wr w.heap.size (eOf (s.data.toList.take k)) ∧ New w wr) (fun x _ => s.size - (intOf x).toNat)
  case atStart => exact ⟨0, rfl, by omega, by rw [List.take_zero]; exact HFR.out, HN0.out⟩
  case round =>
    clear HFR HN0
    obtain ⟨k, rfl, hk, hbl, hn⟩ := hrel
    have HBL := hid hbl; have HN := hid hn
    have hbw := hbl.lt
    by_cases hlt : k < s.size
    · have hltI : (k : Int) < (s.size : Int) := by omega
      have hb := byteAtE s hlt
      have HNX := hid (eOf_next (l := s.data.toList) (k := k) (by omega))
      have hacc := eOf_len (s.data.toList.take k)
      rw [List.length_take] at hacc
      obtain ⟨acc, hac⟩ : ∃ acc, acc = eOf (s.data.toList.take k) := ⟨_, rfl⟩
      rw [← hac, hb] at HNX
      rw [← hac] at HBL hacc
      have HCUT := hid (one_cut s hlt)
      clear hbl hn hac hb
      cases hp : plainE s[k] with
      | true =>
        have HPC := hid (fun w => HP.out s[k] w)
        rw [hp] at HPC
        rw [eB, hp, if_pos rfl] at HNX
        clear hp
        go_wp2_with fail
        refine (HPC.out _).mono ?_
        rintro e w3 ⟨rfl, rfl⟩
        go_wp2_with fail
        refine (byte_any w.heap.size acc s[k] _ HBL.out (by omega)).mono ?_
        rintro e w4 ⟨rfl, b4, n4⟩
        have B4 := hid b4
        have N4 := hid n4
        clear b4 n4
        go_wp2
        exact ⟨⟨k + 1, by simp, by omega, by rw [HNX.out]; exact B4.out, Wrote.new HN.out N4.out (Nat.le_refl _)⟩, by simp [intOf]; omega⟩
      | false =>
        have HPC := hid (fun w => HP.out s[k] w)
        rw [hp] at HPC
        rw [eB, hp, if_neg (by decide)] at HNX
        clear hp
        have HHX := hid (fun W => hex_any (s.extract k (k + 1)) W (by rw [ByteArray.size_extract]; omega))
        rw [HCUT.out] at HHX
        have HUP := hid (fun W => Tryz.strings_ToUpper_ascii ⟨(hexOf [s[k]]).toArray⟩ W (by show (hexOf [s[k]]).toArray.size ≤ _; simp [hexOf]) (hex_ascii _))
        have hup2 : (⟨(Lib.toUpperA (⟨(hexOf [s[k]]).toArray⟩ : ByteArray).data.toList).toArray⟩ : ByteArray) = ⟨#[upD (s[k].toNat / 16), upD (s[k].toNat % 16)]⟩ := by
          rw [show (⟨(hexOf [s[k]]).toArray⟩ : ByteArray).data.toList = hexOf [s[k]] by simp, up_hex]
        rw [hup2] at HUP
        obtain ⟨HB, hHB⟩ : ∃ HB : ByteArray, HB = ⟨(hexOf [s[k]]).toArray⟩ := ⟨_, rfl⟩
        rw [← hHB] at HHX HUP
        obtain ⟨H, hH⟩ : ∃ H, H = upD (s[k].toNat / 16) := ⟨_, rfl⟩
        obtain ⟨L, hL⟩ : ∃ L, L = upD (s[k].toNat % 16) := ⟨_, rfl⟩
        rw [← hH, ← hL] at HUP HNX
        have hadd : ∀ w, (Op.stringOp .add ⟨#[37]⟩ ⟨#[H, L]⟩).run Tryz.prog w = .ok (.string ⟨#[37, H, L]⟩) w := fun w => run_string_add_sum (w := w) _ _ (by show 1 + 2 ≤ _; omega)
        have hk1 : IntKind.i64.wrap ((k : Int) + 1) = (k : Int) + 1 := by rw [IntKind.wrap_i64]; omega
        have hk2 : ((k : Int) + 1).toNat = k + 1 := by omega
        have hk3 : (k : Int) + 1 ≤ (s.size : Int) := by omega
        have hk4 : (k : Int) ≤ (k : Int) + 1 := by omega
        clear hup2 hHB hH hL
        go_wp2_with fail
        refine (HPC.out _).mono ?_
        rintro e w3 ⟨rfl, rfl⟩
        go_wp2_with fail
        refine (HHX.out _).mono ?_
        rintro e w4 ⟨rfl, n4⟩
        have N4 := hid n4
        clear n4
        go_wp2_with fail
        refine (HUP.out _).mono ?_
        rintro e w5 ⟨rfl, n5⟩
        have N5 := hid (N4.out.trans ((Mod.of_below n5).mono (fun i hi q => absurd q (by omega))))
        clear n5
        go_wp2_with fail
        refine (write_any w.heap.size acc ⟨#[37, H, L]⟩ _ (HBL.out.new N5.out) (by show acc.length + 3 ≤ _; omega)).mono ?_
        rintro e w6 ⟨rfl, b6, n6⟩
        have B6 := hid b6
        have N6 := hid n6
        clear b6 n6
        go_wp2
        exact ⟨⟨k + 1, by simp, by omega, by rw [HNX.out]; exact B6.out, Wrote.new (HN.out.trans N5.out) N6.out (Nat.le_refl _)⟩, by simp [intOf]; omega⟩
    · have hjl : s.data.toList.take k = s.data.toList := List.take_of_length_le (by omega)
      rw [hjl, ← HX.out] at HBL
      clear hjl hbl hn
      go_wp2_with fail
      refine (string_any w.heap.size X _ HBL.out).mono ?_
      rintro e w4 ⟨rfl, b4, n4⟩
      have N4 := hid n4
      clear b4 n4
      go_wp2_with fail
      go_ret
      exact ⟨rfl, Wrote.new HN.out N4.out (Nat.le_refl _)⟩
end Go.Proofs.YtecjdppkpfpniaaGreatDoor
