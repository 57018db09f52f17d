/-
  Several texts in one, in their build order. The walks of written (the program) and text (the reference): a valid message written. Conditions: the message lies as told; the library's table is laid.
-/
import Derived.Test.YtnflhjagmngimaaGreatDoorM10
import Derived.Test.YtnflhjagmngimaaGreatDoorM7
import Derived.Laws.Concat
namespace Go.Proofs.YtnflhjagmngimaaGreatDoor
set_option linter.unusedSimpArgs false
set_option linter.unusedVariables false
open Go.RowKit

def mkB (l : List UInt8) : ByteArray := ⟨l.toArray⟩
theorem mkB_app (a b : List UInt8) : mkB a ++ mkB b = mkB (a ++ b) := by
  apply bytes_ext
  simp [mkB]
theorem mkB_size (l : List UInt8) : (mkB l).size = l.length := by simp [mkB, ByteArray.size]
def crlf : List UInt8 := [13, 10]
/-- What has been written before the k-th name. -/
def preW (m : MsgV) (k : Nat) : List UInt8 := firstL ++ crlf ++ portL ++ Lib.itoa m.port ++ crlf ++ (m.names.take k).flatMap (fun n => nameLn n ++ crlf)
theorem preW_next {m : MsgV} {k : Nat} (h : k < m.names.length) : preW m (k + 1) = preW m k ++ (nameL ++ hexOf m.names[k].data.toList ++ crlf) := by
  unfold preW
  rw [List.take_add_one, List.getElem?_eq_getElem h, List.flatMap_append]
  simp [nameLn]
theorem preW_end {m : MsgV} {k : Nat} (h : m.names.length ≤ k) : preW m k ++ cookL ++ m.cookie.data.toList ++ (crlf ++ crlf) = writtenL m := by
  unfold preW
  rw [List.take_of_length_le h, written_flat]
  simp [cookLn, crlf]
theorem preW_len {m : MsgV} (h : validM m = true) (k : Nat) : (preW m k).length ≤ 1100 := by
  obtain ⟨⟨h1, h2⟩, h3, h4⟩ := valid_parts h
  have e1 := itoa_short h1 h2
  have e2 := flat_len (m.names.take k) (fun n hn => namesB_size h3 (List.mem_of_mem_take hn))
  have e3 := (namesB_iff.1 h3).2.2
  have f1 : firstL.length = 14 := rfl
  have f2 : portL.length = 6 := rfl
  have f4 : crlf.length = 2 := rfl
  have e2' : ((m.names.take k).flatMap (fun n => nameLn n ++ crlf)).length = 48 * (m.names.take k).length := e2
  have e5 : (m.names.take k).length ≤ 20 := by rw [List.length_take]; omega
  unfold preW
  simp only [List.length_append, e2', f1, f2, f4]
  omega
set_option maxRecDepth 100000 in
set_option maxHeartbeats 4000000 in
theorem written_any (m : MsgV) (a : Option Addr) (c : Nat) (w : World) (hv : validM m = true) (h : StrsAt w a c m.names) (ht : Tab w) : Calls Tryz.prog 42 #[.agg #[.int .i64 m.port, .slice a m.names.length c, .string m.cookie]] w fun e w' => e = .returned (.string (mkB (writtenL m))) ∧ New w w' := by
  obtain ⟨⟨h1, h2⟩, h3, h4⟩ := valid_parts hv
  obtain ⟨-, k1, k2⟩ := cookie_parts h4
  obtain ⟨-, n1, n2⟩ := namesB_iff.1 h3
  have HSZ := hid (fun n (hn : n ∈ m.names) => namesB_size h3 hn)
  have HPL := hid (fun k => preW_len hv k)
  obtain ⟨b1, o1, rfl, hb1, hc1⟩ := h.get (by omega)
  have HC1 := hid hc1
  have HIT := hid (fun W (n : New w W) => itoa_any m.port (by omega) (by omega) W (ht.new n))
  have HHX := hid (fun s (q : s.size ≤ 70000) W => hex_any s W q)
  have z1 := itoa_size (n := m.port) (by omega) (by omega)
  have hroom := h.room; have hcap := h.cap
  unfold maxLen at hcap
  obtain ⟨port, hport⟩ : ∃ p, p = m.port := ⟨_, rfl⟩
  obtain ⟨ck, hck⟩ : ∃ p, p = m.cookie := ⟨_, rfl⟩
  obtain ⟨N, hN⟩ : ∃ N, N = m.names.length := ⟨_, rfl⟩
  have HP0 : Hid (preW m 0 = firstL ++ crlf ++ portL ++ Lib.itoa port ++ crlf) := hid (by rw [hport]; simp [preW])
  have HEND : Hid (preW m N ++ cookL ++ ck.data.toList ++ (crlf ++ crlf) = writtenL m) := hid (by rw [hck]; exact preW_end (by omega))
  rw [← hport] at HIT z1 h1 h2
  rw [← hck] at k1 k2
  rw [← hN] at hroom n1 n2
  rw [← hport, ← hck, ← hN]
  have HNN := hid hN
  obtain ⟨X1, hX1⟩ : ∃ X, X = (⟨#[67, 65, 76, 76, 32, 42, 32, 67, 79, 86, 69, 89, 47, 49, 13, 10, 80, 111, 114, 116, 58, 32]⟩ : ByteArray) ++ itoaB port := ⟨_, rfl⟩
  obtain ⟨X2, hX2⟩ : ∃ X, X = X1 ++ (⟨#[13, 10]⟩ : ByteArray) := ⟨_, rfl⟩
  have s1 : X1.size ≤ 50 := by rw [hX1, ByteArray.size_append]; show 22 + _ ≤ _; omega
  have a1 : ∀ w, (Op.stringOp .add (⟨#[67, 65, 76, 76, 32, 42, 32, 67, 79, 86, 69, 89, 47, 49, 13, 10, 80, 111, 114, 116, 58, 32]⟩ : ByteArray) (itoaB port)).run Tryz.prog w = .ok (.string X1) w := fun w => by rw [hX1]; exact run_string_add_sum (w := w) _ _ (by show 22 + _ ≤ _; omega)
  have a2 : ∀ w, (Op.stringOp .add X1 (⟨#[13, 10]⟩ : ByteArray)).run Tryz.prog w = .ok (.string X2) w := fun w => by rw [hX2]; exact run_string_add_sum (w := w) _ _ (by show _ + 2 ≤ _; omega)
  have HX2 : Hid (X2 = mkB (preW m 0)) := hid (by
    rw [hX2, hX1, HP0.out]
    apply bytes_ext
    simp [mkB, itoaB, firstL, portL, crlf])
  clear h ht hc1 h3 h4 hport hck hN hX1 hX2 hv
  go_enter Tryz.func42, Tryz.ntmps42
  go_wp2_with fail
  refine (HIT.out _ ((Mod.refl _ _).alloc _)).mono ?_
  rintro e w1 ⟨rfl, n1'⟩
  have B1 := hid (n1'.blk (Blk.new w #[.int .i64 port, .slice (some ⟨b1, o1, none⟩) N c, .string ck] 34))
  have N1 := hid (((Mod.refl _ w).alloc (.cells #[.int .i64 port, .slice (some ⟨b1, o1, none⟩) N c, .string ck] 34)).trans n1' : New w w1)
  clear n1'
  have d1 := B1.out.cellv 1 rfl; have d2 := B1.out.cellv 2 rfl
  go_wp2
  clear a1 a2 s1
  go_loopw [3, 14] (fun s i wr => ∃ (k : Nat) (S : ByteArray), s = .string S ∧ S = mkB (preW m k) ∧ i = .int .i64 k ∧ k ≤ N ∧ New w1 wr) (fun _ i _ => N - (intOf i).toNat)
  case atStart => exact ⟨0, X2, rfl, HX2.out, rfl, by omega, Mod.refl _ _⟩
  case round =>
    obtain ⟨k, S, rfl, hS, rfl, hk, hn⟩ := hrel
    have HS := hid hS; have HN := hid hn
    have sS : S.size ≤ 1100 := by rw [hS, mkB_size]; exact HPL.out k
    by_cases hlt : k < N
    · have hltI : (k : Int) < (N : Int) := by omega
      have hklt : k < m.names.length := by have := HNN.out; omega
      have hc := (N1.out.trans hn).cellv (HC1.out k hklt)
      have hsz := HSZ.out m.names[k] (List.getElem_mem _)
      have HNX := hid (preW_next hklt)
      obtain ⟨X, hX⟩ : ∃ X, X = m.names[k] := ⟨_, rfl⟩
      rw [← hX] at hc hsz HNX
      have HH := hid (HHX.out X (by omega))
      obtain ⟨Hh, hHh⟩ : ∃ Hh : ByteArray, Hh = ⟨(hexOf X.data.toList).toArray⟩ := ⟨_, rfl⟩
      rw [← hHh] at HH
      have sH : Hh.size = 40 := by
        rw [hHh]
        show (hexOf X.data.toList).toArray.size = 40
        have : X.data.toList.length = 20 := by rw [Array.length_toList]; exact hsz
        simp [hex_len, this]
      obtain ⟨Y1, hY1⟩ : ∃ X, X = (⟨#[78, 97, 109, 101, 58, 32]⟩ : ByteArray) ++ Hh := ⟨_, rfl⟩
      obtain ⟨Y2, hY2⟩ : ∃ X, X = Y1 ++ (⟨#[13, 10]⟩ : ByteArray) := ⟨_, rfl⟩
      have t1 : Y1.size = 46 := by rw [hY1, ByteArray.size_append]; show 6 + _ = _; omega
      have t2 : Y2.size = 48 := by rw [hY2, ByteArray.size_append]; show _ + 2 = _; omega
      have a1 : ∀ w, (Op.stringOp .add (⟨#[78, 97, 109, 101, 58, 32]⟩ : ByteArray) Hh).run Tryz.prog w = .ok (.string Y1) w := fun w => by rw [hY1]; exact run_string_add_sum (w := w) _ _ (by show 6 + _ ≤ _; omega)
      have a2 : ∀ w, (Op.stringOp .add Y1 (⟨#[13, 10]⟩ : ByteArray)).run Tryz.prog w = .ok (.string Y2) w := fun w => by rw [hY2]; exact run_string_add_sum (w := w) _ _ (by show _ + 2 ≤ _; omega)
      have a3 : ∀ w, (Op.stringOp .add S Y2).run Tryz.prog w = .ok (.string (S ++ Y2)) w := fun w => run_string_add_sum (w := w) _ _ (by omega)
      have HS2 : Hid (S ++ Y2 = mkB (preW m (k + 1))) := hid (by
        rw [HNX.out, HS.out, hY2, hY1, hHh]
        apply bytes_ext
        simp [mkB, nameL, crlf])
      clear hX hHh hY1 hY2 hS hn hsz hklt t1 t2 sS sH
      go_wp2_with fail
      refine (HH.out _).mono ?_
      rintro e w2 ⟨rfl, n2⟩
      have N2 := hid (HN.out.trans n2)
      clear n2
      go_wp2
      exact ⟨⟨k + 1, _, rfl, HS2.out, by simp, by omega, N2.out⟩, by simp [intOf]; omega⟩
    · obtain rfl : k = N := by omega
      have B2 := hid (hn.blk B1.out)
      have d2 := B2.out.cellv 2 rfl
      have db := B2.out.lt
      obtain ⟨Z1, hZ1⟩ : ∃ X, X = S ++ (⟨#[67, 111, 111, 107, 105, 101, 58, 32]⟩ : ByteArray) := ⟨_, rfl⟩
      obtain ⟨Z2, hZ2⟩ : ∃ X, X = Z1 ++ ck := ⟨_, rfl⟩
      obtain ⟨Z3, hZ3⟩ : ∃ X, X = Z2 ++ (⟨#[13, 10, 13, 10]⟩ : ByteArray) := ⟨_, rfl⟩
      have t1 : Z1.size = S.size + 8 := by rw [hZ1, ByteArray.size_append]; rfl
      have t2 : Z2.size = Z1.size + ck.size := by rw [hZ2, ByteArray.size_append]
      have a1 : ∀ w, (Op.stringOp .add S (⟨#[67, 111, 111, 107, 105, 101, 58, 32]⟩ : ByteArray)).run Tryz.prog w = .ok (.string Z1) w := fun w => by rw [hZ1]; exact run_string_add_sum (w := w) _ _ (by show _ + 8 ≤ _; omega)
      have a2 : ∀ w, (Op.stringOp .add Z1 ck).run Tryz.prog w = .ok (.string Z2) w := fun w => by rw [hZ2]; exact run_string_add_sum (w := w) _ _ (by omega)
      have a3 : ∀ w, (Op.stringOp .add Z2 (⟨#[13, 10, 13, 10]⟩ : ByteArray)).run Tryz.prog w = .ok (.string Z3) w := fun w => by rw [hZ3]; exact run_string_add_sum (w := w) _ _ (by show _ + 4 ≤ _; omega)
      have HZ : Hid (Z3 = mkB (writtenL m)) := hid (by
        rw [hZ3, hZ2, hZ1, HS.out, ← HEND.out]
        apply bytes_ext
        simp [mkB, cookL, crlf])
      clear hZ1 hZ2 hZ3 t1 t2 sS hS hn
      go_wp2
      go_ret
      exact ⟨ret_str HZ.out, N1.out.trans HN.out⟩
set_option maxRecDepth 100000 in
set_option maxHeartbeats 4000000 in
theorem text_any (m : MsgV) (a : Option Addr) (c : Nat) (w : World) (hv : validM m = true) (h : StrsAt w a c m.names) (ht : Tab w) : Calls Tryz.prog 48 #[.agg #[.int .i64 m.port, .slice a m.names.length c, .string m.cookie]] w fun e w' => e = .returned (.string (mkB (writtenL m))) ∧ New w w' := by
  obtain ⟨⟨h1, h2⟩, h3, h4⟩ := valid_parts hv
  obtain ⟨-, k1, k2⟩ := cookie_parts h4
  obtain ⟨-, n1, n2⟩ := namesB_iff.1 h3
  have HSZ := hid (fun n (hn : n ∈ m.names) => namesB_size h3 hn)
  have HPL := hid (fun k => preW_len hv k)
  obtain ⟨b1, o1, rfl, hb1, hc1⟩ := h.get (by omega)
  have HC1 := hid hc1
  have HIT := hid (fun W (n : New w W) => itoa_any m.port (by omega) (by omega) W (ht.new n))
  have HHX := hid (fun s (q : s.size ≤ 70000) W => rhex_any s W q)
  have z1 := itoa_size (n := m.port) (by omega) (by omega)
  have hroom := h.room; have hcap := h.cap
  unfold maxLen at hcap
  obtain ⟨port, hport⟩ : ∃ p, p = m.port := ⟨_, rfl⟩
  obtain ⟨ck, hck⟩ : ∃ p, p = m.cookie := ⟨_, rfl⟩
  obtain ⟨N, hN⟩ : ∃ N, N = m.names.length := ⟨_, rfl⟩
  have HP0 : Hid (preW m 0 = firstL ++ crlf ++ portL ++ Lib.itoa port ++ crlf) := hid (by rw [hport]; simp [preW])
  have HEND : Hid (preW m N ++ cookL ++ ck.data.toList ++ (crlf ++ crlf) = writtenL m) := hid (by rw [hck]; exact preW_end (by omega))
  rw [← hport] at HIT z1 h1 h2
  rw [← hck] at k1 k2
  rw [← hN] at hroom n1 n2
  rw [← hport, ← hck, ← hN]
  have HNN := hid hN
  obtain ⟨X1, hX1⟩ : ∃ X, X = (⟨#[67, 65, 76, 76, 32, 42, 32, 67, 79, 86, 69, 89, 47, 49, 13, 10, 80, 111, 114, 116, 58, 32]⟩ : ByteArray) ++ itoaB port := ⟨_, rfl⟩
  obtain ⟨X2, hX2⟩ : ∃ X, X = X1 ++ (⟨#[13, 10]⟩ : ByteArray) := ⟨_, rfl⟩
  have s1 : X1.size ≤ 50 := by rw [hX1, ByteArray.size_append]; show 22 + _ ≤ _; omega
  have a1 : ∀ w, (Op.stringOp .add (⟨#[67, 65, 76, 76, 32, 42, 32, 67, 79, 86, 69, 89, 47, 49, 13, 10, 80, 111, 114, 116, 58, 32]⟩ : ByteArray) (itoaB port)).run Tryz.prog w = .ok (.string X1) w := fun w => by rw [hX1]; exact run_string_add_sum (w := w) _ _ (by show 22 + _ ≤ _; omega)
  have a2 : ∀ w, (Op.stringOp .add X1 (⟨#[13, 10]⟩ : ByteArray)).run Tryz.prog w = .ok (.string X2) w := fun w => by rw [hX2]; exact run_string_add_sum (w := w) _ _ (by show _ + 2 ≤ _; omega)
  have HX2 : Hid (X2 = mkB (preW m 0)) := hid (by
    rw [hX2, hX1, HP0.out]
    apply bytes_ext
    simp [mkB, itoaB, firstL, portL, crlf])
  clear h ht hc1 h3 h4 hport hck hN hX1 hX2 hv
  go_enter Tryz.func48, Tryz.ntmps48
  go_wp2_with fail
  refine (HIT.out _ ((Mod.refl _ _).alloc _)).mono ?_
  rintro e w1 ⟨rfl, n1'⟩
  have B1 := hid (n1'.blk (Blk.new w #[.int .i64 port, .slice (some ⟨b1, o1, none⟩) N c, .string ck] 34))
  have N1 := hid (((Mod.refl _ w).alloc (.cells #[.int .i64 port, .slice (some ⟨b1, o1, none⟩) N c, .string ck] 34)).trans n1' : New w w1)
  clear n1'
  have d1 := B1.out.cellv 1 rfl; have d2 := B1.out.cellv 2 rfl
  go_wp2
  clear a1 a2 s1
  go_loopw [3, 14] (fun s i wr => ∃ (k : Nat) (S : ByteArray), s = .string S ∧ S = mkB (preW m k) ∧ i = .int .i64 k ∧ k ≤ N ∧ New w1 wr) (fun _ i _ => N - (intOf i).toNat)
  case atStart => exact ⟨0, X2, rfl, HX2.out, rfl, by omega, Mod.refl _ _⟩
  case round =>
    obtain ⟨k, S, rfl, hS, rfl, hk, hn⟩ := hrel
    have HS := hid hS; have HN := hid hn
    have sS : S.size ≤ 1100 := by rw [hS, mkB_size]; exact HPL.out k
    by_cases hlt : k < N
    · have hltI : (k : Int) < (N : Int) := by omega
      have hklt : k < m.names.length := by have := HNN.out; omega
      have hc := (N1.out.trans hn).cellv (HC1.out k hklt)
      have hsz := HSZ.out m.names[k] (List.getElem_mem _)
      have HNX := hid (preW_next hklt)
      obtain ⟨X, hX⟩ : ∃ X, X = m.names[k] := ⟨_, rfl⟩
      rw [← hX] at hc hsz HNX
      have HH := hid (HHX.out X (by omega))
      obtain ⟨Hh, hHh⟩ : ∃ Hh : ByteArray, Hh = ⟨(hexOf X.data.toList).toArray⟩ := ⟨_, rfl⟩
      rw [← hHh] at HH
      have sH : Hh.size = 40 := by
        rw [hHh]
        show (hexOf X.data.toList).toArray.size = 40
        have : X.data.toList.length = 20 := by rw [Array.length_toList]; exact hsz
        simp [hex_len, this]
      obtain ⟨Y1, hY1⟩ : ∃ X, X = (⟨#[78, 97, 109, 101, 58, 32]⟩ : ByteArray) ++ Hh := ⟨_, rfl⟩
      obtain ⟨Y2, hY2⟩ : ∃ X, X = Y1 ++ (⟨#[13, 10]⟩ : ByteArray) := ⟨_, rfl⟩
      have t1 : Y1.size = 46 := by rw [hY1, ByteArray.size_append]; show 6 + _ = _; omega
      have t2 : Y2.size = 48 := by rw [hY2, ByteArray.size_append]; show _ + 2 = _; omega
      have a1 : ∀ w, (Op.stringOp .add (⟨#[78, 97, 109, 101, 58, 32]⟩ : ByteArray) Hh).run Tryz.prog w = .ok (.string Y1) w := fun w => by rw [hY1]; exact run_string_add_sum (w := w) _ _ (by show 6 + _ ≤ _; omega)
      have a2 : ∀ w, (Op.stringOp .add Y1 (⟨#[13, 10]⟩ : ByteArray)).run Tryz.prog w = .ok (.string Y2) w := fun w => by rw [hY2]; exact run_string_add_sum (w := w) _ _ (by show _ + 2 ≤ _; omega)
      have a3 : ∀ w, (Op.stringOp .add S Y2).run Tryz.prog w = .ok (.string (S ++ Y2)) w := fun w => run_string_add_sum (w := w) _ _ (by omega)
      have HS2 : Hid (S ++ Y2 = mkB (preW m (k + 1))) := hid (by
        rw [HNX.out, HS.out, hY2, hY1, hHh]
        apply bytes_ext
        simp [mkB, nameL, crlf])
      clear hX hHh hY1 hY2 hS hn hsz hklt t1 t2 sS sH
      go_wp2_with fail
      refine (HH.out _).mono ?_
      rintro e w2 ⟨rfl, n2⟩
      have N2 := hid (HN.out.trans n2)
      clear n2
      go_wp2
      exact ⟨⟨k + 1, _, rfl, HS2.out, by simp, by omega, N2.out⟩, by simp [intOf]; omega⟩
    · obtain rfl : k = N := by omega
      have B2 := hid (hn.blk B1.out)
      have d2 := B2.out.cellv 2 rfl
      have db := B2.out.lt
      obtain ⟨Z1, hZ1⟩ : ∃ X, X = S ++ (⟨#[67, 111, 111, 107, 105, 101, 58, 32]⟩ : ByteArray) := ⟨_, rfl⟩
      obtain ⟨Z2, hZ2⟩ : ∃ X, X = Z1 ++ ck := ⟨_, rfl⟩
      obtain ⟨Z3, hZ3⟩ : ∃ X, X = Z2 ++ (⟨#[13, 10, 13, 10]⟩ : ByteArray) := ⟨_, rfl⟩
      have t1 : Z1.size = S.size + 8 := by rw [hZ1, ByteArray.size_append]; rfl
      have t2 : Z2.size = Z1.size + ck.size := by rw [hZ2, ByteArray.size_append]
      have a1 : ∀ w, (Op.stringOp .add S (⟨#[67, 111, 111, 107, 105, 101, 58, 32]⟩ : ByteArray)).run Tryz.prog w = .ok (.string Z1) w := fun w => by rw [hZ1]; exact run_string_add_sum (w := w) _ _ (by show _ + 8 ≤ _; omega)
      have a2 : ∀ w, (Op.stringOp .add Z1 ck).run Tryz.prog w = .ok (.string Z2) w := fun w => by rw [hZ2]; exact run_string_add_sum (w := w) _ _ (by omega)
      have a3 : ∀ w, (Op.stringOp .add Z2 (⟨#[13, 10, 13, 10]⟩ : ByteArray)).run Tryz.prog w = .ok (.string Z3) w := fun w => by rw [hZ3]; exact run_string_add_sum (w := w) _ _ (by show _ + 4 ≤ _; omega)
      have HZ : Hid (Z3 = mkB (writtenL m)) := hid (by
        rw [hZ3, hZ2, hZ1, HS.out, ← HEND.out]
        apply bytes_ext
        simp [mkB, cookL, crlf])
      clear hZ1 hZ2 hZ3 t1 t2 sS hS hn
      go_wp2
      go_ret
      exact ⟨ret_str HZ.out, N1.out.trans HN.out⟩
end Go.Proofs.YtnflhjagmngimaaGreatDoor
