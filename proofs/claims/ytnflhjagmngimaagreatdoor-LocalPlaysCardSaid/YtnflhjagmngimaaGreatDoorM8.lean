/-
  Several texts in one, in their build order. The walks of written (the program) and text (the reference): a valid message written. Conditions: the message lies as told; the library's table is laid. A crier in memory: its fields, the map of names to the times at which they were told; look-up, store. No condition but those of the lemmas.
-/
import Derived.Test.YtnflhjagmngimaaGreatDoorM7
import Derived.Test.YtnflhjagmngimaaGreatDoorM4
import Derived.Laws.Concat
import Derived.Test.YtnflhjagmngimaaGreatDoorM2
import Derived.Test.YtnflhjagmngimaaGreatDoorM5
namespace Go.Proofs.YtnflhjagmngimaaGreatDoor
set_option linter.unusedSimpArgs false
set_option linter.unusedVariables false
open Go.RowKit

def mkB (l : List UInt8) : ByteArray := ⟨l.toArray⟩
theorem mkB_app (a b : List UInt8) : mkB a ++ mkB b = mkB (a ++ b) := by
  apply bytes_ext
  simp [mkB]
theorem mkB_size (l : List UInt8) : (mkB l).size = l.length := by simp [mkB, ByteArray.size]
def crlf : List UInt8 := [13, 10]
/-- What has been written before the k-th name. -/
def preW (m : MsgV) (k : Nat) : List UInt8 := firstL ++ crlf ++ portL ++ Lib.itoa m.port ++ crlf ++ (m.names.take k).flatMap (fun n => nameLn n ++ crlf)
theorem preW_next {m : MsgV} {k : Nat} (h : k < m.names.length) : preW m (k + 1) = preW m k ++ (nameL ++ hexOf m.names[k].data.toList ++ crlf) := by
  unfold preW
  rw [List.take_add_one, List.getElem?_eq_getElem h, List.flatMap_append]
  simp [nameLn]
theorem preW_end {m : MsgV} {k : Nat} (h : m.names.length ≤ k) : preW m k ++ cookL ++ m.cookie.data.toList ++ (crlf ++ crlf) = writtenL m := by
  unfold preW
  rw [List.take_of_length_le h, written_flat]
  simp [cookLn, crlf]
theorem preW_len {m : MsgV} (h : validM m = true) (k : Nat) : (preW m k).length ≤ 1100 := by
  obtain ⟨⟨h1, h2⟩, h3, h4⟩ := valid_parts h
  have e1 := itoa_short h1 h2
  have e2 := flat_len (m.names.take k) (fun n hn => namesB_size h3 (List.mem_of_mem_take hn))
  have e3 := (namesB_iff.1 h3).2.2
  have f1 : firstL.length = 14 := rfl
  have f2 : portL.length = 6 := rfl
  have f4 : crlf.length = 2 := rfl
  have e2' : ((m.names.take k).flatMap (fun n => nameLn n ++ crlf)).length = 48 * (m.names.take k).length := e2
  have e5 : (m.names.take k).length ≤ 20 := by rw [List.length_take]; omega
  unfold preW
  simp only [List.length_append, e2', f1, f2, f4]
  omega
set_option maxRecDepth 100000 in
set_option maxHeartbeats 4000000 in
theorem written_any (m : MsgV) (a : Option Addr) (c : Nat) (w : World) (hv : validM m = true) (h : StrsAt w a c m.names) (ht : Tab w) : Calls Tryz.prog 42 #[.agg #[.int .i64 m.port, .slice a m.names.length c, .string m.cookie]] w fun e w' => e = .returned (.string (mkB (writtenL m))) ∧ New w w' := by
  obtain ⟨⟨h1, h2⟩, h3, h4⟩ := valid_parts hv
  obtain ⟨-, k1, k2⟩ := cookie_parts h4
  obtain ⟨-, n1, n2⟩ := namesB_iff.1 h3
  have HSZ := hid (fun n (hn : n ∈ m.names) => namesB_size h3 hn)
  have HPL := hid (fun k => preW_len hv k)
  obtain ⟨b1, o1, rfl, hb1, hc1⟩ := h.get (by omega)
  have HC1 := hid hc1
  have HIT := hid (fun W (n : New w W) => itoa_any m.port (by omega) (by omega) W (ht.new n))
  have HHX := hid (fun s (q : s.size ≤ 70000) W => hex_any s W q)
  have z1 := itoa_size (n := m.port) (by omega) (by omega)
  have hroom := h.room; have hcap := h.cap
  unfold maxLen at hcap
  obtain ⟨port, hport⟩ : ∃ p, p = m.port := ⟨_, rfl⟩
  obtain ⟨ck, hck⟩ : ∃ p, p = m.cookie := ⟨_, rfl⟩
  obtain ⟨N, hN⟩ : ∃ N, N = m.names.length := ⟨_, rfl⟩
  have HP0 : Hid (preW m 0 = firstL ++ crlf ++ portL ++ Lib.itoa port ++ crlf) := hid (by rw [hport]; simp [preW])
  have HEND : Hid (preW m N ++ cookL ++ ck.data.toList ++ (crlf ++ crlf) = writtenL m) := hid (by rw [hck]; exact preW_end (by omega))
  rw [← hport] at HIT z1 h1 h2
  rw [← hck] at k1 k2
  rw [← hN] at hroom n1 n2
  rw [← hport, ← hck, ← hN]
  have HNN := hid hN
  obtain ⟨X1, hX1⟩ : ∃ X, X = (⟨#[67, 65, 76, 76, 32, 42, 32, 67, 79, 86, 69, 89, 47, 49, 13, 10, 80, 111, 114, 116, 58, 32]⟩ : ByteArray) ++ itoaB port := ⟨_, rfl⟩
  obtain ⟨X2, hX2⟩ : ∃ X, X = X1 ++ (⟨#[13, 10]⟩ : ByteArray) := ⟨_, rfl⟩
  have s1 : X1.size ≤ 50 := by rw [hX1, ByteArray.size_append]; show 22 + _ ≤ _; omega
  have a1 : ∀ w, (Op.stringOp .add (⟨#[67, 65, 76, 76, 32, 42, 32, 67, 79, 86, 69, 89, 47, 49, 13, 10, 80, 111, 114, 116, 58, 32]⟩ : ByteArray) (itoaB port)).run Tryz.prog w = .ok (.string X1) w := fun w => by rw [hX1]; exact run_string_add_sum (w := w) _ _ (by show 22 + _ ≤ _; omega)
  have a2 : ∀ w, (Op.stringOp .add X1 (⟨#[13, 10]⟩ : ByteArray)).run Tryz.prog w = .ok (.string X2) w := fun w => by rw [hX2]; exact run_string_add_sum (w := w) _ _ (by show _ + 2 ≤ _; omega)
  have HX2 : Hid (X2 = mkB (preW m 0)) := hid (by
    rw [hX2, hX1, HP0.out]
    apply bytes_ext
    simp [mkB, itoaB, firstL, portL, crlf])
  clear h ht hc1 h3 h4 hport hck hN hX1 hX2 hv
  go_enter Tryz.func42, Tryz.ntmps42
  go_wp2_with fail
  refine (HIT.out _ ((Mod.refl _ _).alloc _)).mono ?_
  rintro e w1 ⟨rfl, n1'⟩
  have B1 := hid (n1'.blk (Blk.new w #[.int .i64 port, .slice (some ⟨b1, o1, none⟩) N c, .string ck] 34))
  have N1 := hid (((Mod.refl _ w).alloc (.cells #[.int .i64 port, .slice (some ⟨b1, o1, none⟩) N c, .string ck] 34)).trans n1' : New w w1)
  clear n1'
  have d1 := B1.out.cellv 1 rfl; have d2 := B1.out.cellv 2 rfl
  go_wp2
  clear a1 a2 s1
  go_loopw [3, 14] (fun s i wr => ∃ (k : Nat) (S : ByteArray), s = .string S ∧ S = mkB (preW m k) ∧ i = .int .i64 k ∧ k ≤ N ∧ New w1 wr) (fun _ i _ => N - (intOf i).toNat)
  case atStart => exact ⟨0, X2, rfl, HX2.out, rfl, by omega, Mod.refl _ _⟩
  case round =>
    obtain ⟨k, S, rfl, hS, rfl, hk, hn⟩ := hrel
    have HS := hid hS; have HN := hid hn
    have sS : S.size ≤ 1100 := by rw [hS, mkB_size]; exact HPL.out k
    by_cases hlt : k < N
    · have hltI : (k : Int) < (N : Int) := by omega
      have hklt : k < m.names.length := by have := HNN.out; omega
      have hc := (N1.out.trans hn).cellv (HC1.out k hklt)
      have hsz := HSZ.out m.names[k] (List.getElem_mem _)
      have HNX := hid (preW_next hklt)
      obtain ⟨X, hX⟩ : ∃ X, X = m.names[k] := ⟨_, rfl⟩
      rw [← hX] at hc hsz HNX
      have HH := hid (HHX.out X (by omega))
      obtain ⟨Hh, hHh⟩ : ∃ Hh : ByteArray, Hh = ⟨(hexOf X.data.toList).toArray⟩ := ⟨_, rfl⟩
      rw [← hHh] at HH
      have sH : Hh.size = 40 := by
        rw [hHh]
        show (hexOf X.data.toList).toArray.size = 40
        have : X.data.toList.length = 20 := by rw [Array.length_toList]; exact hsz
        simp [hex_len, this]
      obtain ⟨Y1, hY1⟩ : ∃ X, X = (⟨#[78, 97, 109, 101, 58, 32]⟩ : ByteArray) ++ Hh := ⟨_, rfl⟩
      obtain ⟨Y2, hY2⟩ : ∃ X, X = Y1 ++ (⟨#[13, 10]⟩ : ByteArray) := ⟨_, rfl⟩
      have t1 : Y1.size = 46 := by rw [hY1, ByteArray.size_append]; show 6 + _ = _; omega
      have t2 : Y2.size = 48 := by rw [hY2, ByteArray.size_append]; show _ + 2 = _; omega
      have a1 : ∀ w, (Op.stringOp .add (⟨#[78, 97, 109, 101, 58, 32]⟩ : ByteArray) Hh).run Tryz.prog w = .ok (.string Y1) w := fun w => by rw [hY1]; exact run_string_add_sum (w := w) _ _ (by show 6 + _ ≤ _; omega)
      have a2 : ∀ w, (Op.stringOp .add Y1 (⟨#[13, 10]⟩ : ByteArray)).run Tryz.prog w = .ok (.string Y2) w := fun w => by rw [hY2]; exact run_string_add_sum (w := w) _ _ (by show _ + 2 ≤ _; omega)
      have a3 : ∀ w, (Op.stringOp .add S Y2).run Tryz.prog w = .ok (.string (S ++ Y2)) w := fun w => run_string_add_sum (w := w) _ _ (by omega)
      have HS2 : Hid (S ++ Y2 = mkB (preW m (k + 1))) := hid (by
        rw [HNX.out, HS.out, hY2, hY1, hHh]
        apply bytes_ext
        simp [mkB, nameL, crlf])
      clear hX hHh hY1 hY2 hS hn hsz hklt t1 t2 sS sH
      go_wp2_with fail
      refine (HH.out _).mono ?_
      rintro e w2 ⟨rfl, n2⟩
      have N2 := hid (HN.out.trans n2)
      clear n2
      go_wp2
      exact ⟨⟨k + 1, _, rfl, HS2.out, by simp, by omega, N2.out⟩, by simp [intOf]; omega⟩
    · obtain rfl : k = N := by omega
      have B2 := hid (hn.blk B1.out)
      have d2 := B2.out.cellv 2 rfl
      have db := B2.out.lt
      obtain ⟨Z1, hZ1⟩ : ∃ X, X = S ++ (⟨#[67, 111, 111, 107, 105, 101, 58, 32]⟩ : ByteArray) := ⟨_, rfl⟩
      obtain ⟨Z2, hZ2⟩ : ∃ X, X = Z1 ++ ck := ⟨_, rfl⟩
      obtain ⟨Z3, hZ3⟩ : ∃ X, X = Z2 ++ (⟨#[13, 10, 13, 10]⟩ : ByteArray) := ⟨_, rfl⟩
      have t1 : Z1.size = S.size + 8 := by rw [hZ1, ByteArray.size_append]; rfl
      have t2 : Z2.size = Z1.size + ck.size := by rw [hZ2, ByteArray.size_append]
      have a1 : ∀ w, (Op.stringOp .add S (⟨#[67, 111, 111, 107, 105, 101, 58, 32]⟩ : ByteArray)).run Tryz.prog w = .ok (.string Z1) w := fun w => by rw [hZ1]; exact run_string_add_sum (w := w) _ _ (by show _ + 8 ≤ _; omega)
      have a2 : ∀ w, (Op.stringOp .add Z1 ck).run Tryz.prog w = .ok (.string Z2) w := fun w => by rw [hZ2]; exact run_string_add_sum (w := w) _ _ (by omega)
      have a3 : ∀ w, (Op.stringOp .add Z2 (⟨#[13, 10, 13, 10]⟩ : ByteArray)).run Tryz.prog w = .ok (.string Z3) w := fun w => by rw [hZ3]; exact run_string_add_sum (w := w) _ _ (by show _ + 4 ≤ _; omega)
      have HZ : Hid (Z3 = mkB (writtenL m)) := hid (by
        rw [hZ3, hZ2, hZ1, HS.out, ← HEND.out]
        apply bytes_ext
        simp [mkB, cookL, crlf])
      clear hZ1 hZ2 hZ3 t1 t2 sS hS hn
      go_wp2
      go_ret
      exact ⟨ret_str HZ.out, N1.out.trans HN.out⟩
set_option maxRecDepth 100000 in
set_option maxHeartbeats 4000000 in
theorem text_any (m : MsgV) (a : Option Addr) (c : Nat) (w : World) (hv : validM m = true) (h : StrsAt w a c m.names) (ht : Tab w) : Calls Tryz.prog 48 #[.agg #[.int .i64 m.port, .slice a m.names.length c, .string m.cookie]] w fun e w' => e = .returned (.string (mkB (writtenL m))) ∧ New w w' := by
  obtain ⟨⟨h1, h2⟩, h3, h4⟩ := valid_parts hv
  obtain ⟨-, k1, k2⟩ := cookie_parts h4
  obtain ⟨-, n1, n2⟩ := namesB_iff.1 h3
  have HSZ := hid (fun n (hn : n ∈ m.names) => namesB_size h3 hn)
  have HPL := hid (fun k => preW_len hv k)
  obtain ⟨b1, o1, rfl, hb1, hc1⟩ := h.get (by omega)
  have HC1 := hid hc1
  have HIT := hid (fun W (n : New w W) => itoa_any m.port (by omega) (by omega) W (ht.new n))
  have HHX := hid (fun s (q : s.size ≤ 70000) W => rhex_any s W q)
  have z1 := itoa_size (n := m.port) (by omega) (by omega)
  have hroom := h.room; have hcap := h.cap
  unfold maxLen at hcap
  obtain ⟨port, hport⟩ : ∃ p, p = m.port := ⟨_, rfl⟩
  obtain ⟨ck, hck⟩ : ∃ p, p = m.cookie := ⟨_, rfl⟩
  obtain ⟨N, hN⟩ : ∃ N, N = m.names.length := ⟨_, rfl⟩
  have HP0 : Hid (preW m 0 = firstL ++ crlf ++ portL ++ Lib.itoa port ++ crlf) := hid (by rw [hport]; simp [preW])
  have HEND : Hid (preW m N ++ cookL ++ ck.data.toList ++ (crlf ++ crlf) = writtenL m) := hid (by rw [hck]; exact preW_end (by omega))
  rw [← hport] at HIT z1 h1 h2
  rw [← hck] at k1 k2
  rw [← hN] at hroom n1 n2
  rw [← hport, ← hck, ← hN]
  have HNN := hid hN
  obtain ⟨X1, hX1⟩ : ∃ X, X = (⟨#[67, 65, 76, 76, 32, 42, 32, 67, 79, 86, 69, 89, 47, 49, 13, 10, 80, 111, 114, 116, 58, 32]⟩ : ByteArray) ++ itoaB port := ⟨_, rfl⟩
  obtain ⟨X2, hX2⟩ : ∃ X, X = X1 ++ (⟨#[13, 10]⟩ : ByteArray) := ⟨_, rfl⟩
  have s1 : X1.size ≤ 50 := by rw [hX1, ByteArray.size_append]; show 22 + _ ≤ _; omega
  have a1 : ∀ w, (Op.stringOp .add (⟨#[67, 65, 76, 76, 32, 42, 32, 67, 79, 86, 69, 89, 47, 49, 13, 10, 80, 111, 114, 116, 58, 32]⟩ : ByteArray) (itoaB port)).run Tryz.prog w = .ok (.string X1) w := fun w => by rw [hX1]; exact run_string_add_sum (w := w) _ _ (by show 22 + _ ≤ _; omega)
  have a2 : ∀ w, (Op.stringOp .add X1 (⟨#[13, 10]⟩ : ByteArray)).run Tryz.prog w = .ok (.string X2) w := fun w => by rw [hX2]; exact run_string_add_sum (w := w) _ _ (by show _ + 2 ≤ _; omega)
  have HX2 : Hid (X2 = mkB (preW m 0)) := hid (by
    rw [hX2, hX1, HP0.out]
    apply bytes_ext
    simp [mkB, itoaB, firstL, portL, crlf])
  clear h ht hc1 h3 h4 hport hck hN hX1 hX2 hv
  go_enter Tryz.func48, Tryz.ntmps48
  go_wp2_with fail
  refine (HIT.out _ ((Mod.refl _ _).alloc _)).mono ?_
  rintro e w1 ⟨rfl, n1'⟩
  have B1 := hid (n1'.blk (Blk.new w #[.int .i64 port, .slice (some ⟨b1, o1, none⟩) N c, .string ck] 34))
  have N1 := hid (((Mod.refl _ w).alloc (.cells #[.int .i64 port, .slice (some ⟨b1, o1, none⟩) N c, .string ck] 34)).trans n1' : New w w1)
  clear n1'
  have d1 := B1.out.cellv 1 rfl; have d2 := B1.out.cellv 2 rfl
  go_wp2
  clear a1 a2 s1
  go_loopw [3, 14] (fun s i wr => ∃ (k : Nat) (S : ByteArray), s = .string S ∧ S = mkB (preW m k) ∧ i = .int .i64 k ∧ k ≤ N ∧ New w1 wr) (fun _ i _ => N - (intOf i).toNat)
  case atStart => exact ⟨0, X2, rfl, HX2.out, rfl, by omega, Mod.refl _ _⟩
  case round =>
    obtain ⟨k, S, rfl, hS, rfl, hk, hn⟩ := hrel
    have HS := hid hS; have HN := hid hn
    have sS : S.size ≤ 1100 := by rw [hS, mkB_size]; exact HPL.out k
    by_cases hlt : k < N
    · have hltI : (k : Int) < (N : Int) := by omega
      have hklt : k < m.names.length := by have := HNN.out; omega
      have hc := (N1.out.trans hn).cellv (HC1.out k hklt)
      have hsz := HSZ.out m.names[k] (List.getElem_mem _)
      have HNX := hid (preW_next hklt)
      obtain ⟨X, hX⟩ : ∃ X, X = m.names[k] := ⟨_, rfl⟩
      rw [← hX] at hc hsz HNX
      have HH := hid (HHX.out X (by omega))
      obtain ⟨Hh, hHh⟩ : ∃ Hh : ByteArray, Hh = ⟨(hexOf X.data.toList).toArray⟩ := ⟨_, rfl⟩
      rw [← hHh] at HH
      have sH : Hh.size = 40 := by
        rw [hHh]
        show (hexOf X.data.toList).toArray.size = 40
        have : X.data.toList.length = 20 := by rw [Array.length_toList]; exact hsz
        simp [hex_len, this]
      obtain ⟨Y1, hY1⟩ : ∃ X, X = (⟨#[78, 97, 109, 101, 58, 32]⟩ : ByteArray) ++ Hh := ⟨_, rfl⟩
      obtain ⟨Y2, hY2⟩ : ∃ X, X = Y1 ++ (⟨#[13, 10]⟩ : ByteArray) := ⟨_, rfl⟩
      have t1 : Y1.size = 46 := by rw [hY1, ByteArray.size_append]; show 6 + _ = _; omega
      have t2 : Y2.size = 48 := by rw [hY2, ByteArray.size_append]; show _ + 2 = _; omega
      have a1 : ∀ w, (Op.stringOp .add (⟨#[78, 97, 109, 101, 58, 32]⟩ : ByteArray) Hh).run Tryz.prog w = .ok (.string Y1) w := fun w => by rw [hY1]; exact run_string_add_sum (w := w) _ _ (by show 6 + _ ≤ _; omega)
      have a2 : ∀ w, (Op.stringOp .add Y1 (⟨#[13, 10]⟩ : ByteArray)).run Tryz.prog w = .ok (.string Y2) w := fun w => by rw [hY2]; exact run_string_add_sum (w := w) _ _ (by show _ + 2 ≤ _; omega)
      have a3 : ∀ w, (Op.stringOp .add S Y2).run Tryz.prog w = .ok (.string (S ++ Y2)) w := fun w => run_string_add_sum (w := w) _ _ (by omega)
      have HS2 : Hid (S ++ Y2 = mkB (preW m (k + 1))) := hid (by
        rw [HNX.out, HS.out, hY2, hY1, hHh]
        apply bytes_ext
        simp [mkB, nameL, crlf])
      clear hX hHh hY1 hY2 hS hn hsz hklt t1 t2 sS sH
      go_wp2_with fail
      refine (HH.out _).mono ?_
      rintro e w2 ⟨rfl, n2⟩
      have N2 := hid (HN.out.trans n2)
      clear n2
      go_wp2
      exact ⟨⟨k + 1, _, rfl, HS2.out, by simp, by omega, N2.out⟩, by simp [intOf]; omega⟩
    · obtain rfl : k = N := by omega
      have B2 := hid (hn.blk B1.out)
      have d2 := B2.out.cellv 2 rfl
      have db := B2.out.lt
      obtain ⟨Z1, hZ1⟩ : ∃ X, X = S ++ (⟨#[67, 111, 111, 107, 105, 101, 58, 32]⟩ : ByteArray) := ⟨_, rfl⟩
      obtain ⟨Z2, hZ2⟩ : ∃ X, X = Z1 ++ ck := ⟨_, rfl⟩
      obtain ⟨Z3, hZ3⟩ : ∃ X, X = Z2 ++ (⟨#[13, 10, 13, 10]⟩ : ByteArray) := ⟨_, rfl⟩
      have t1 : Z1.size = S.size + 8 := by rw [hZ1, ByteArray.size_append]; rfl
      have t2 : Z2.size = Z1.size + ck.size := by rw [hZ2, ByteArray.size_append]
      have a1 : ∀ w, (Op.stringOp .add S (⟨#[67, 111, 111, 107, 105, 101, 58, 32]⟩ : ByteArray)).run Tryz.prog w = .ok (.string Z1) w := fun w => by rw [hZ1]; exact run_string_add_sum (w := w) _ _ (by show _ + 8 ≤ _; omega)
      have a2 : ∀ w, (Op.stringOp .add Z1 ck).run Tryz.prog w = .ok (.string Z2) w := fun w => by rw [hZ2]; exact run_string_add_sum (w := w) _ _ (by omega)
      have a3 : ∀ w, (Op.stringOp .add Z2 (⟨#[13, 10, 13, 10]⟩ : ByteArray)).run Tryz.prog w = .ok (.string Z3) w := fun w => by rw [hZ3]; exact run_string_add_sum (w := w) _ _ (by show _ + 4 ≤ _; omega)
      have HZ : Hid (Z3 = mkB (writtenL m)) := hid (by
        rw [hZ3, hZ2, hZ1, HS.out, ← HEND.out]
        apply bytes_ext
        simp [mkB, cookL, crlf])
      clear hZ1 hZ2 hZ3 t1 t2 sS hS hn
      go_wp2
      go_ret
      exact ⟨ret_str HZ.out, N1.out.trans HN.out⟩
end Go.Proofs.YtnflhjagmngimaaGreatDoor

namespace Go.Proofs.YtnflhjagmngimaaGreatDoor
set_option linter.unusedSimpArgs false
set_option linter.unusedVariables false
open Go.RowKit Go.MapKept

/-- A text is in a list of texts. -/
def inB (l : List ByteArray) (k : ByteArray) : Bool := l.any fun x => x.data == k.data
theorem ba_eq {a b : ByteArray} (h : a.data = b.data) : a = b := by cases a; cases b; simp at h; rw [h]
theorem inB_iff {l : List ByteArray} {k : ByteArray} : inB l k = true ↔ k ∈ l := by
  unfold inB
  rw [List.any_eq_true]
  constructor
  · rintro ⟨x, hx, e⟩
    rw [← ba_eq (beq_iff_eq.1 e)]
    exact hx
  · intro h
    exact ⟨k, h, by simp⟩
theorem inB_no {l : List ByteArray} {k : ByteArray} : inB l k = false ↔ k ∉ l := by
  rw [← inB_iff, Bool.not_eq_true]
/-- The entries of a map of names to numbers. -/
def entsV (all : List ByteArray) (f : ByteArray → Int) : List (Value × Value) := all.map fun k => (Value.string k, Value.int .i64 (f k))
def upd (f : ByteArray → Int) (k : ByteArray) (v : Int) (x : ByteArray) : Int := if x.data = k.data then v else f x
theorem upd_self (f : ByteArray → Int) (k : ByteArray) (v : Int) : upd f k v k = v := if_pos rfl
theorem upd_other (f : ByteArray → Int) {k x : ByteArray} (v : Int) (h : x ≠ k) : upd f k v x = f x := if_neg (fun q => h (ba_eq q))
theorem key_str (k : ByteArray) : IsKey .string (.string k) := trivial
theorem ents_len (all : List ByteArray) (f : ByteArray → Int) : (entsV all f).length = all.length := List.length_map ..
theorem ents_keys (all : List ByteArray) (f : ByteArray → Int) : (entsV all f).map (·.1) = all.map Value.string := by unfold entsV; rw [List.map_map]; rfl
theorem ents_no {all : List ByteArray} {f : ByteArray → Int} {k : ByteArray} (h : k ∉ all) : ∀ x ∈ entsV all f, x.1 ≠ .string k := by
  intro x hx q
  obtain ⟨y, hy, rfl⟩ := List.mem_map.1 hx
  simp only [Value.string.injEq] at q
  exact h (q ▸ hy)
theorem ents_at {all : List ByteArray} {f : ByteArray → Int} {k : ByteArray} (h : k ∈ all) : ∃ i : Nat, all[i]? = some k ∧ (entsV all f)[i]? = some (Value.string k, Value.int .i64 (f k)) := by
  obtain ⟨i, hi, e⟩ := List.getElem_of_mem h
  refine ⟨i, by rw [List.getElem?_eq_getElem hi, e], ?_⟩
  unfold entsV
  rw [List.getElem?_map, List.getElem?_eq_getElem hi, e]
  rfl
/-- Block b is the map of the names all to the numbers that f tells; of others f tells 0. -/
structure NumsM (w : World) (b : Nat) (all : List ByteArray) (f : ByteArray → Int) : Prop where
  map : MapL w b .string (entsV all f)
  zero : ∀ k, k ∉ all → f k = 0
theorem NumsM.nodup {w : World} {b : Nat} {all : List ByteArray} {f : ByteArray → Int} (h : NumsM w b all f) : all.Nodup := by
  have := h.map.keys.1
  rw [ents_keys] at this
  exact (List.pairwise_map.1 this).imp (fun {a b} q e => q (by rw [e]))
theorem NumsM.mod {T : Nat → Prop} {w w' : World} {b : Nat} {all : List ByteArray} {f : ByteArray → Int} (h : NumsM w b all f) (hm : Mod T w w') (hn : ¬ T b) : NumsM w' b all f := ⟨h.map.mod hm hn, h.zero⟩
theorem NumsM.new {w w' : World} {b : Nat} {all : List ByteArray} {f : ByteArray → Int} (h : NumsM w b all f) (hm : New w w') : NumsM w' b all f := h.mod hm (fun q => q)
theorem NumsM.made (w : World) {b : Nat} (hb : b = w.heap.size) : NumsM (w.alloc (.map #[] 0)) b [] (fun _ => 0) := ⟨MapL.made w .string hb, fun _ _ => rfl⟩
theorem NumsM.look {w : World} {b : Nat} {all : List ByteArray} {f : ByteArray → Int} (h : NumsM w b all f) (k : ByteArray) :
    (Instr.lookup 60 (.map (some b)) (.string k) false).run Tryz.prog w = .ok (.int .i64 (f k)) w := by
  by_cases hk : k ∈ all
  · obtain ⟨i, -, hi⟩ := ents_at (f := f) hk
    exact h.map.look_at (P := Tryz.prog) Tryz.underlying60 Tryz.underlying9 (key_str k) hi false
  · rw [h.zero k hk]
    exact h.map.look_no (P := Tryz.prog) Tryz.underlying60 Tryz.underlying9 (key_str k) (ents_no hk) (z := .int .i64 0) (Tryz.zeroValue3 w) false
theorem NumsM.look2 {w : World} {b : Nat} {all : List ByteArray} {f : ByteArray → Int} (h : NumsM w b all f) (k : ByteArray) :
    (Instr.lookup 60 (.map (some b)) (.string k) true).run Tryz.prog w = .ok (.tuple #[.int .i64 (f k), .bool (inB all k)]) w := by
  by_cases hk : k ∈ all
  · obtain ⟨i, -, hi⟩ := ents_at (f := f) hk
    rw [inB_iff.2 hk]
    exact h.map.look_at (P := Tryz.prog) Tryz.underlying60 Tryz.underlying9 (key_str k) hi true
  · rw [h.zero k hk, inB_no.2 hk]
    exact h.map.look_no (P := Tryz.prog) Tryz.underlying60 Tryz.underlying9 (key_str k) (ents_no hk) (z := .int .i64 0) (Tryz.zeroValue3 w) true
theorem NumsM.len {w : World} {b : Nat} {all : List ByteArray} {f : ByteArray → Int} (h : NumsM w b all f) (ty : TypeId) :
    (Builtin.len_ #[60] ty #[.map (some b)]).run Tryz.prog w = .ok (.int .i64 all.length) w := by
  have := h.map.len (P := Tryz.prog) Tryz.underlying60 ty
  rwa [ents_len] at this
theorem NumsM.put_new {w : World} {b : Nat} {all : List ByteArray} {f : ByteArray → Int} (h : NumsM w b all f) {k : ByteArray} (hk : k ∉ all) (v : Int) :
    ∃ w', (Instr.mapUpdate 60 (.map (some b)) (.string k) (.int .i64 v)).run Tryz.prog w = .ok () w' ∧ NumsM w' b (all ++ [k]) (upd f k v) ∧ Mod (· = b) w w' := by
  obtain ⟨w', h1, h2, h3⟩ := h.map.put_no (P := Tryz.prog) Tryz.underlying60 Tryz.underlying9 (key_str k) (ents_no hk) (.int .i64 v)
  refine ⟨w', h1, ⟨?_, fun x hx => ?_⟩, h3⟩
  · have e1 : entsV all f = entsV all (upd f k v) := by
      unfold entsV
      refine List.map_congr_left (fun x hx => ?_)
      have hxk : x ≠ k := fun q => hk (by rw [← q]; exact hx)
      rw [upd_other f v hxk]
    have e : entsV all f ++ [(Value.string k, Value.int .i64 v)] = entsV (all ++ [k]) (upd f k v) := by
      rw [e1]
      unfold entsV
      rw [List.map_append, List.map_cons, List.map_nil, upd_self]
    rw [← e]
    exact h2
  · have hxk : x ≠ k := fun q => hx (by rw [q]; simp)
    rw [upd_other f v hxk]
    exact h.zero x (fun q => hx (List.mem_append_left _ q))
theorem NumsM.put_there {w : World} {b : Nat} {all : List ByteArray} {f : ByteArray → Int} (h : NumsM w b all f) {k : ByteArray} (hk : k ∈ all) (v : Int) :
    ∃ w', (Instr.mapUpdate 60 (.map (some b)) (.string k) (.int .i64 v)).run Tryz.prog w = .ok () w' ∧ NumsM w' b all (upd f k v) ∧ Mod (· = b) w w' := by
  obtain ⟨i, hi, hi2⟩ := ents_at (f := f) hk
  obtain ⟨w', h1, h2, h3⟩ := h.map.put_at (P := Tryz.prog) Tryz.underlying60 Tryz.underlying9 (key_str k) hi2 (.int .i64 v)
  refine ⟨w', h1, ⟨?_, fun x hx => ?_⟩, h3⟩
  · have e : (entsV all f).set i (Value.string k, Value.int .i64 v) = entsV all (upd f k v) := by
      apply List.ext_getElem?
      intro j
      unfold entsV
      rw [List.getElem?_set, List.length_map, List.getElem?_map, List.getElem?_map]
      have hil := (List.getElem?_eq_some_iff.1 hi).1
      by_cases q : i = j
      · subst q
        rw [if_pos rfl, if_pos hil, hi, Option.map_some, upd_self]
      · rw [if_neg q]
        cases hj : all[j]? with
        | none => rfl
        | some x =>
          simp only [Option.map_some]
          rw [upd_other]
          intro e
          subst e
          obtain ⟨h1, h2⟩ := List.getElem?_eq_some_iff.1 hi
          obtain ⟨h3, h4⟩ := List.getElem?_eq_some_iff.1 hj
          exact q ((List.getElem_inj h.nodup (h₀ := h1) (h₁ := h3)).1 (by rw [h2, h4]))
    rw [← e]
    exact h2
  · have hxk : x ≠ k := fun q => hx (by rw [q]; exact hk)
    rw [upd_other _ _ hxk]
    exact h.zero x hx
/-- What a crier is. -/
structure CrV where
  now : Int
  cookie : ByteArray
  port : Int
  every : Int
  sent : Int
  min : Int
  all : List ByteArray
  last : ByteArray → Int
  ips : List ByteArray
  heard : ByteArray → Int
def crRow (M H : Nat) (c : CrV) : Array Value := #[.int .i64 c.now, .string c.cookie, .int .i64 c.port, .int .i64 c.every, .map (some M), .int .i64 c.sent, .int .i64 c.min, .map (some H)]
/-- What holds of every crier. -/
structure CrOk (c : CrV) : Prop where
  now : 0 ≤ c.now ∧ c.now ≤ 1000000000
  cook : cookieOk c.cookie = true ∧ c.cookie.size = 16
  port : 1 ≤ c.port ∧ c.port ≤ 65535
  every : 1000 ≤ c.every ∧ c.every ≤ 1000000
  sent : -1 ≤ c.sent ∧ c.sent ≤ c.now
  few : c.all.length ≤ 200
  size : ∀ k ∈ c.all, k.size = 20
  last : ∀ k, -1 ≤ c.last k ∧ c.last k ≤ 1000000000
  min : 0 ≤ c.min
/-- A crier lies in block B, its maps in M and H. -/
structure CrAt (w : World) (B M H : Nat) (c : CrV) : Prop where
  row : Blk w B (crRow M H c) 64
  names : NumsM w M c.all c.last
  hears : NumsM w H c.ips c.heard
  apart : M ≠ B ∧ H ≠ B ∧ H ≠ M
theorem CrAt.mod {T : Nat → Prop} {w w' : World} {B M H : Nat} {c : CrV} (h : CrAt w B M H c) (hm : Mod T w w') (h1 : ¬ T B) (h2 : ¬ T M) (h3 : ¬ T H) : CrAt w' B M H c :=
  ⟨Mod.blk hm h.row h1, h.names.mod hm h2, h.hears.mod hm h3, h.apart⟩
theorem CrAt.new {w w' : World} {B M H : Nat} {c : CrV} (h : CrAt w B M H c) (hm : New w w') : CrAt w' B M H c := h.mod hm (fun q => q) (fun q => q) (fun q => q)
theorem CrAt.lt {w : World} {B M H : Nat} {c : CrV} (h : CrAt w B M H c) : B < w.heap.size ∧ M < w.heap.size ∧ H < w.heap.size := ⟨h.row.lt, h.names.map.lt, h.hears.map.lt⟩
end Go.Proofs.YtnflhjagmngimaaGreatDoor
