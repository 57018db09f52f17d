/-
  Several texts in one, in their build order. The reference's digest: the walks of start, one, eight, Sum; it is package hash's. No condition but sizes. The walk of the reference's New. Conditions: sizes.
-/
import Derived.Test.YtnflhjagmngimaaGreatDoorM16
import Derived.Test.YtnflhjagmngimaaGreatDoorM28
import Derived.Test.YtnflhjagmngimaaGreatDoorM17
import Derived.Test.YtnflhjagmngimaaGreatDoorM7
namespace Go.Proofs.YtnflhjagmngimaaGreatDoor
set_option linter.unusedSimpArgs false
set_option linter.unusedVariables false
open Go.RowKit Go.Shelf

theorem rstart_any (k : Int) (w : World) : Calls Tryz.prog 86 #[.int .u64 k] w fun e w' => e = .returned (.int .u64 (laneB k)) ∧ w = w' := by
  unfold laneB
  go_enter Tryz.func86, Tryz.ntmps86
  go_wp2
  go_ret
  exact ⟨rfl, rfl⟩
theorem xmul_pos (h x : Int) : 0 ≤ xmulT h x ∧ xmulT h x < 18446744073709551616 := by
  unfold xmulT
  generalize bits .xor .u64 h (IntKind.u64.wrap x) * 1099511628211 = y
  have e : IntKind.u64.wrap y = y % 18446744073709551616 := by simp [IntKind.wrap, IntKind.bits, IntKind.signed]
  rw [e]
  omega
theorem u64_in (x : Int) (h0 : 0 ≤ x) (h1 : x < 18446744073709551616) : IntKind.u64.wrap x = x := by
  have e : IntKind.u64.wrap x = x % 18446744073709551616 := by simp [IntKind.wrap, IntKind.bits, IntKind.signed]
  rw [e]
  omega
theorem laneE_pos (h n : Int) : 0 ≤ laneE h n ∧ laneE h n < 18446744073709551616 := by
  unfold laneE
  generalize bits .xor .u64 (xmulT h n) (xmulT h n / 4294967296) * 1099511628211 = y
  have e : IntKind.u64.wrap y = y % 18446744073709551616 := by simp [IntKind.wrap, IntKind.bits, IntKind.signed]
  rw [e]
  omega
theorem byteAtR (t : ByteArray) {k : Nat} (h : k < t.size) : t.data.toList[k]'(by rw [Array.length_toList]; exact h) = t[k] := rfl
set_option maxRecDepth 100000 in
set_option maxHeartbeats 4000000 in
theorem rone_any (s : ByteArray) (h : Int) (w : World) (hs : s.size ≤ 4000000000) : Calls Tryz.prog 85 #[.string s, .int .u64 h] w fun e w' => e = .returned (.int .u64 (laneE (laneF h s.data.toList) s.size)) ∧ w = w' := by
  have hlen : s.data.toList.length = s.size := by rw [Array.length_toList]; rfl
  go_enter Tryz.func85, Tryz.ntmps85
  go_wp2_with fail
  go_loopw [1, 8] (fun x i wr => ∃ (k : Nat), i = .int .i64 k ∧ k ≤ s.size ∧ x = .int .u64 (laneF h (s.data.toList.take k)) ∧ wr = w) (fun _ i _ => s.size - (intOf i).toNat)
  case atStart => exact ⟨0, rfl, by omega, rfl, rfl⟩
  case round =>
    obtain ⟨k, rfl, hk, rfl, rfl⟩ := hrel
    by_cases hlt : k < s.size
    · have hltI : (k : Int) < (s.size : Int) := by omega
      have HN := hid (laneF_next (h := h) (l := s.data.toList) (k := k) (by omega))
      rw [byteAtR s hlt] at HN
      obtain ⟨H, hH⟩ : ∃ H, H = laneF h (s.data.toList.take k) := ⟨_, rfl⟩
      rw [← hH] at HN ⊢
      have hx := xmul_pos H (s[k].toNat)
      have hq : (xmulT H (s[k].toNat)).tdiv 536870912 = xmulT H (s[k].toNat) / 536870912 := Int.tdiv_eq_ediv_of_nonneg hx.1
      have hw := u64_in (xmulT H (s[k].toNat) / 536870912) (by omega) (by omega)
      unfold xmulT at hq hw
      clear hH hx
      go_wp2_with fail
      go_roundw
      case rel => exact ⟨k + 1, by simp, by omega, by rw [HN.out]; simp [laneT, xmulT], by first | rfl | trivial⟩
      case measure => simp [intOf]; omega
    · have hkl : s.data.toList.take k = s.data.toList := List.take_of_length_le (by omega)
      rw [hkl]
      obtain ⟨H, hH⟩ : ∃ H, H = laneF h s.data.toList := ⟨_, rfl⟩
      rw [← hH]
      have HH := hid hH
      have hx := xmul_pos H (s.size : Int)
      have hq : (xmulT H (s.size : Int)).tdiv 4294967296 = xmulT H (s.size : Int) / 4294967296 := Int.tdiv_eq_ediv_of_nonneg hx.1
      have hw := u64_in (xmulT H (s.size : Int) / 4294967296) (by omega) (by omega)
      unfold xmulT at hq hw
      have hsz := u64_in (s.size : Int) (by omega) (by omega)
      have HE := hid (show laneE H (s.size : Int) = IntKind.u64.wrap (bits .xor .u64 (IntKind.u64.wrap (bits .xor .u64 H (s.size : Int) * 1099511628211)) (IntKind.u64.wrap (bits .xor .u64 H (s.size : Int) * 1099511628211) / 4294967296) * 1099511628211) by unfold laneE xmulT; rw [hsz])
      rw [hsz] at hq hw
      clear hH hx
      go_wp2_with fail
      go_ret
      exact ⟨by rw [← HH.out, HE.out]; simp [hq, hw], by first | rfl | trivial⟩
/-- Behind k rounds: zeros, and the last k bytes. -/
def eightC (n : Int) (k : Nat) : Array Value := ((List.range 8).map fun j => if 8 ≤ j + k then Value.int .u8 ((byteN n (56 - 8 * j)).toNat : Int) else Value.int .u8 0).toArray
theorem eightC_next (n : Int) (k : Nat) (hk : k < 8) : (eightC n k).setIfInBounds (7 - k) (.int .u8 ((byteN n (8 * k)).toNat : Int)) = eightC n (k + 1) := by
  match k, hk with
  | 0, _ => simp [eightC, List.range, List.range.loop]
  | 1, _ => simp [eightC, List.range, List.range.loop]
  | 2, _ => simp [eightC, List.range, List.range.loop]
  | 3, _ => simp [eightC, List.range, List.range.loop]
  | 4, _ => simp [eightC, List.range, List.range.loop]
  | 5, _ => simp [eightC, List.range, List.range.loop]
  | 6, _ => simp [eightC, List.range, List.range.loop]
  | 7, _ => simp [eightC, List.range, List.range.loop]
theorem eightC_end (n : Int) : eightC n 8 = (byV (eightL n)).toArray := by simp [eightC, byV, eightL, List.range, List.range.loop]
theorem eightC_zero (n : Int) : eightC n 0 = Array.replicate 8 (.int .u8 0) := by simp [eightC, List.range, List.range.loop, Array.replicate_succ]
theorem info_byteR : (Tryz.prog.info? 5).map (fun i => (i.zero, i.size, i.bytes)) = some (some (.int .u8 0), 1, 1) := by kernel_rfl
theorem made_oneR (v : Value) (n : Nat) (hv : v.cells = #[v]) : madeCells v.cells n = Array.replicate n v := by
  apply Array.ext
  · simp [madeCells]
  · intro i h1 h2
    simp [madeCells, hv, Nat.mod_one]
theorem make_bytesR (n : Nat) (h : n ≤ 65536) (w : World) : (Instr.makeSlice 100 (.int .i64 n) (.int .i64 n)).run Tryz.prog w = .ok (.slice (some ⟨w.heap.size, 0, none⟩) n n) (w.alloc (.cells (Array.replicate n (.int .u8 0)) 5)) := by
  obtain ⟨i0, hi, hz0, hz1, hz2⟩ := info_parts info_byteR
  have hr := run_makeSlice (P := Tryz.prog) w 100 5 i0 _ Tryz.underlying100 hi hz0 .i64 .i64 n n (by omega) (by omega) (by rw [hz1]; omega) (by rw [hz2]; omega) (by omega)
  rw [hr, hz1, Nat.mul_one, made_oneR _ _ rfl]
  simp
theorem ownY_cells {w : World} {b : Nat} {l : List UInt8} (h : Blk w b (byV l).toArray 5) (hl : l.length ≤ maxLen) : OwnY w b (.slice (some ⟨b, 0, none⟩) l.length l.length) l :=
  ⟨by simp [byV], .inr ⟨b, l.length, (byV l).toArray, rfl, Nat.le_refl _, h, Nat.le_refl _, hl, by simp [byV], by
    have : (byV l).length = l.length := by simp [byV]
    simp only [Nat.mul_one]
    rw [List.take_of_length_le (by simp [this])]⟩⟩
set_option maxRecDepth 100000 in
set_option maxHeartbeats 4000000 in
theorem reight_any (n : Int) (w : World) (h0 : 0 ≤ n) (h1 : n < 18446744073709551616) : Calls Tryz.prog 84 #[.int .u64 n] w fun e w' => e = .returned (.string (mkB (eightL n))) ∧ New w w' := by
  have hms : ∀ w, (Instr.makeSlice 100 (.int .i64 8) (.int .i64 8)).run Tryz.prog w = .ok (.slice (some ⟨w.heap.size, 0, none⟩) 8 8) (w.alloc (.cells (Array.replicate 8 (.int .u8 0)) 5)) := make_bytesR 8 (by omega)
  go_enter Tryz.func84, Tryz.ntmps84
  go_wp2_with fail
  have HB0 : Hid (Blk (w.alloc (.cells (Array.replicate 8 (.int .u8 0)) 5)) w.heap.size (eightC n 0) 5) := hid (by rw [eightC_zero]; exact Blk.new w _ _)
  have HN0 : Hid (New w (w.alloc (.cells (Array.replicate 8 (.int .u8 0)) 5))) := hid ((Mod.refl _ _).alloc _)
  clear hms
  go_loopw [0, 6] (fun x i wr => ∃ (k : Nat), i = .int .i64 k ∧ k ≤ 8 ∧ x = .int .u64 (n / 2 ^ (8 * k)) ∧ Blk wr w.heap.size (eightC n k) 5 ∧ New w wr) (fun _ i _ => 8 - (intOf i).toNat)
  case atStart => exact ⟨0, rfl, by omega, by simp, by simpa [Array.replicate_succ] using HB0.out, by simpa [Array.replicate_succ] using HN0.out⟩
  case round =>
    obtain ⟨k, rfl, hk, rfl, hb, hn⟩ := hrel
    have HB := hid hb; have HN := hid hn
    by_cases hlt : k < 8
    · have h3 : 0 ≤ n / 2 ^ (8 * k) := Int.ediv_nonneg h0 (Int.le_of_lt (Int.pow_pos (by decide)))
      have h4 : n / 2 ^ (8 * k) ≤ n := Int.ediv_le_self _ h0
      have HX := hid (show n / 2 ^ (8 * k) / 256 = n / 2 ^ (8 * (k + 1)) by rw [Int.ediv_ediv_of_nonneg (Int.le_of_lt (Int.pow_pos (by decide))), show 8 * (k + 1) = 8 * k + 8 by omega, Int.pow_add]; rfl)
      have hv := byteN_val n (8 * k)
      obtain ⟨b, hbb⟩ : ∃ b : UInt8, b = byteN n (8 * k) := ⟨_, rfl⟩
      have HC := hid (eightC_next n k hlt)
      rw [← hbb] at hv HC
      obtain ⟨m, hm⟩ : ∃ m, m = n / 2 ^ (8 * k) := ⟨_, rfl⟩
      rw [← hm] at h3 h4 HX hv ⊢
      have hq : m.tdiv 256 = m / 256 := Int.tdiv_eq_ediv_of_nonneg h3
      have hr : m.tmod 256 = (b.toNat : Int) := by rw [Int.tmod_eq_emod_of_nonneg h3]; exact hv.symm
      have hw := u64_in (m / 256) (by omega) (by omega)
      have hb8 := b.toNat_lt
      have hw2 := u64_in (b.toNat : Int) (by omega) (by omega)
      have hw3 : IntKind.u8.wrap (b.toNat : Int) = (b.toNat : Int) := IntWalk.u8_in _ (by omega)
      have c7 : wr.cell? ⟨w.heap.size, 7 - k, none⟩ = (eightC n k)[7 - k]? := hb.cell _
      obtain ⟨u, hu⟩ : ∃ u, (eightC n k)[7 - k]? = some u := ⟨_, Array.getElem?_eq_getElem (by simp [eightC]; omega)⟩
      rw [hu] at c7
      have cl := hb.lt; have cf := hb.frz (7 - k)
      have e7 : (7 : Int) - (k : Int) = ((7 - k : Nat) : Int) := by omega
      have hi7 : ((7 - k : Nat) : Int) < 8 := by omega
      clear hb hn hv hbb hm hu
      go_wp2_with fail
      go_roundw
      case rel => exact ⟨k + 1, by simp, by omega, by rw [HX.out], by rw [← HC.out]; exact HB.out.set _ _, HN.out.set _ _ (.inr (Nat.le_refl _))⟩
      case measure => simp [intOf]; omega
    · obtain rfl : k = 8 := by omega
      rw [eightC_end] at HB
      have HT := ownY_text (ownY_cells HB.out (by rw [eight_len]; decide))
      rw [eight_len] at HT
      clear hb hn
      go_wp2_with fail
      go_ret
      exact ⟨rfl, HN.out⟩
set_option maxRecDepth 100000 in
set_option maxHeartbeats 4000000 in
theorem rsum_any (s : ByteArray) (w : World) (hs : s.size ≤ 4000000000) : Calls Tryz.prog 54 #[.string s] w fun e w' => e = .returned (.string (mkB (sumL s.data.toList))) ∧ New w w' := by
  have HO := hid (fun k w => rone_any s (laneB k) w hs)
  have HE := hid (fun k w => reight_any (laneE (laneF (laneB k) s.data.toList) s.size) w (laneE_pos _ _).1 (laneE_pos _ _).2)
  have hlen : (s.data.toList.length : Int) = s.size := by rw [Array.length_toList]; rfl
  have HS : Hid (mkB (sumL s.data.toList) = mkB (eightL (laneE (laneF (laneB 0) s.data.toList) s.size)) ++ mkB (eightL (laneE (laneF (laneB 1) s.data.toList) s.size)) ++ mkB (eightL (laneE (laneF (laneB 2) s.data.toList) s.size)) ++ mkB (eightL (laneE (laneF (laneB 3) s.data.toList) s.size))) := hid (by
    unfold sumL dgL
    rw [mkB_app, mkB_app, mkB_app, hlen]
    simp [List.range, List.range.loop, nth4])
  have HZ := hid (fun n => (by rw [mkB_size, eight_len] : (mkB (eightL n)).size = 8))
  obtain ⟨d, hd⟩ : ∃ d : Int → ByteArray, d = fun k => mkB (eightL (laneE (laneF (laneB k) s.data.toList) s.size)) := ⟨_, rfl⟩
  have HD : Hid (∀ k, (d k).size = 8) := hid (fun k => by rw [hd]; exact HZ.out _)
  obtain ⟨g, hg⟩ : ∃ g : Int → Int, g = fun k => laneE (laneF (laneB k) s.data.toList) s.size := ⟨_, rfl⟩
  have HO2 : Hid (∀ k w, Calls Tryz.prog 85 #[.string s, .int .u64 (laneB k)] w fun e w' => e = .returned (.int .u64 (g k)) ∧ w = w') := hid (by rw [hg]; exact HO.out)
  have HE2 : Hid (∀ k w, Calls Tryz.prog 84 #[.int .u64 (g k)] w fun e w' => e = .returned (.string (d k)) ∧ New w w') := hid (by rw [hg, hd]; exact HE.out)
  have HS2 : Hid (mkB (sumL s.data.toList) = d 0 ++ d 1 ++ d 2 ++ d 3) := hid (by rw [hd]; exact HS.out)
  clear hd hg HO HE HS hlen HZ
  go_enter Tryz.func54, Tryz.ntmps54
  go_wp2_with fail
  go_loopw [3, 5] (fun x i wr => ∃ (k : Nat), i = .int .i64 k ∧ k ≤ 4 ∧ x = .string (((List.range k).map fun j => d (j : Nat)).foldl (· ++ ·) ⟨#[]⟩) ∧ New w wr) (fun _ i _ => 4 - (intOf i).toNat)
  case atStart => exact ⟨0, rfl, by omega, rfl, Mod.refl _ _⟩
  case round =>
    obtain ⟨k, rfl, hk, rfl, hn⟩ := hrel
    have HN := hid hn
    have HB := hid (fun j => HD.out j)
    by_cases hlt : k < 4
    · have HNX : Hid (((List.range (k + 1)).map fun j => d (j : Nat)).foldl (· ++ ·) ⟨#[]⟩ = ((List.range k).map fun j => d (j : Nat)).foldl (· ++ ·) (⟨#[]⟩ : ByteArray) ++ d (k : Nat)) := hid (by rw [List.range_succ, List.map_append, List.foldl_append]; rfl)
      have hsz : (((List.range k).map fun j => d (j : Nat)).foldl (· ++ ·) (⟨#[]⟩ : ByteArray)).size = 8 * k := by
        clear HNX
        induction k with
        | zero => rfl
        | succ k ih => rw [List.range_succ, List.map_append, List.foldl_append]; show ((_ : ByteArray) ++ d _).size = _; rw [ByteArray.size_append, ih (by omega) (by omega), HD.out]; omega
      obtain ⟨X, hX⟩ : ∃ X, X = ((List.range k).map fun j => d (j : Nat)).foldl (· ++ ·) (⟨#[]⟩ : ByteArray) := ⟨_, rfl⟩
      rw [← hX] at hsz HNX ⊢
      obtain ⟨Y, hY⟩ : ∃ Y, Y = d (k : Nat) := ⟨_, rfl⟩
      have hYz : Y.size = 8 := by rw [hY]; exact HD.out _
      have HE3 := hid (fun w => HE2.out (k : Nat) w)
      rw [← hY] at HNX HE3
      have hwk : IntKind.u64.wrap (k : Int) = (k : Int) := u64_in _ (by omega) (by omega)
      have hadd : ∀ w, (Op.stringOp .add X Y).run Tryz.prog w = .ok (.string (X ++ Y)) w := fun w => run_string_add_sum (w := w) X Y (by omega)
      clear hX hY hn
      go_wp2_with fail
      refine (rstart_any _ _).mono ?_
      rintro e w1 ⟨rfl, rfl⟩
      go_wp2_with fail
      refine (HO2.out _ _).mono ?_
      rintro e w2 ⟨rfl, rfl⟩
      go_wp2_with fail
      refine (HE3.out _).mono ?_
      rintro e w3 ⟨rfl, n3⟩
      have N3 := hid (HN.out.trans n3)
      clear n3
      go_wp2_with fail
      go_roundw
      case rel => exact ⟨k + 1, by simp, by omega, by rw [HNX.out], N3.out⟩
      case measure => simp [intOf]; omega
    · obtain rfl : k = 4 := by omega
      clear hn
      go_wp2_with fail
      go_ret
      refine ⟨?_, HN.out⟩
      rw [HS2.out]
      have e0 : ∀ x : ByteArray, (⟨#[]⟩ : ByteArray) ++ x = x := fun x => by apply ByteArray.ext; simp
      simp [List.range, List.range.loop, e0]
end Go.Proofs.YtnflhjagmngimaaGreatDoor

namespace Go.Proofs.YtnflhjagmngimaaGreatDoor
set_option linter.unusedSimpArgs false
set_option linter.unusedVariables false
open Go.RowKit Go.Shelf

set_option maxRecDepth 100000 in
set_option maxHeartbeats 4000000 in
theorem rNew_no (seed : ByteArray) (port every : Int) (w : World) (hs : seed.size ≤ maxLen) (h : newEr seed port every ≠ 0) :
    Calls Tryz.prog 18 #[.string seed, .int .i64 port, .int .i64 every] w fun e w' => e = .returned (.tuple #[.pointer none, .int .i64 (newEr seed port every)]) ∧ w' = w := by
  unfold maxLen at hs
  unfold newEr at h ⊢
  by_cases g : 100 < seed.size
  · have e1 : decide ((100 : Int) < (seed.size : Int)) = true := decide_eq_true (by omega)
    have e2 : (100 : Int) < (seed.size : Int) := by omega
    rw [if_pos g]
    clear h g
    go_enter Tryz.func18, Tryz.ntmps18
    go_wp2_with fail
    go_ret2
    exact ⟨rfl, rfl⟩
  · have e2 : ¬ (100 : Int) < (seed.size : Int) := by omega
    rw [if_neg g] at h ⊢
    by_cases g2 : port < 1 ∨ 65535 < port ∨ every < 1000 ∨ 1000000 < every
    · rw [if_pos g2]
      clear h g
      by_cases q1 : port < 1
      · clear g2
        go_enter Tryz.func18, Tryz.ntmps18
        go_wp2_with fail
        go_ret2
        exact ⟨rfl, rfl⟩
      · by_cases q2 : 65535 < port
        · clear g2
          go_enter Tryz.func18, Tryz.ntmps18
          go_wp2_with fail
          go_ret2
          exact ⟨rfl, rfl⟩
        · by_cases q3 : every < 1000
          · clear g2
            go_enter Tryz.func18, Tryz.ntmps18
            go_wp2_with fail
            go_ret2
            exact ⟨rfl, rfl⟩
          · have q4 : 1000000 < every := by omega
            clear g2
            go_enter Tryz.func18, Tryz.ntmps18
            go_wp2_with fail
            go_ret2
            exact ⟨rfl, rfl⟩
    · rw [if_neg g2] at h
      exact absurd rfl h
/-- The crier that is made. -/
def newRc (seed : ByteArray) (port every : Int) : RcV := ⟨cookV seed, port, every, [], [], 0, 0, false⟩
set_option maxRecDepth 100000 in
set_option maxHeartbeats 4000000 in
theorem rNew_ok (seed : ByteArray) (port every : Int) (w : World) (h : newEr seed port every = 0) :
    Calls Tryz.prog 18 #[.string seed, .int .i64 port, .int .i64 every] w fun e w' => ∃ R, e = .returned (.tuple #[.pointer (some ⟨R, 0, none⟩), .int .i64 0]) ∧ RcAt w' R none none 0 0 (newRc seed port every) ∧ New w w' ∧ w.heap.size ≤ R := by
  have hh : seed.size ≤ 100 ∧ 1 ≤ port ∧ port ≤ 65535 ∧ 1000 ≤ every ∧ every ≤ 1000000 := by
    unfold newEr at h
    split at h
    · simp at h
    · split at h
      · simp at h
      · omega
  obtain ⟨g1, g2, g3, g4, g5⟩ := hh
  have HS := hid (rsum_any seed w (by omega))
  have e1 : ¬ (100 : Int) < (seed.size : Int) := by omega
  obtain ⟨S, hS⟩ : ∃ S, S = mkB (sumL seed.data.toList) := ⟨_, rfl⟩
  have hsz : S.size = 32 := by rw [hS, mkB_size, sum_len]
  have HX := hid (fun w => rhex_any (S.extract 0 8) w (by rw [ByteArray.size_extract]; omega))
  have HCK := hid (show (⟨(hexOf (S.extract 0 8).data.toList).toArray⟩ : ByteArray) = cookV seed by rw [hS, ext8]; rfl)
  rw [HCK.out] at HX
  rw [← hS] at HS
  clear h hS
  go_enter Tryz.func18, Tryz.ntmps18
  go_wp2_with fail
  refine HS.out.mono ?_
  rintro e w1 ⟨rfl, n1⟩
  have N1 := hid n1
  clear n1
  go_wp2_with fail
  refine (HX.out _).mono ?_
  rintro e w2 ⟨rfl, n2⟩
  have N2 := hid (N1.out.trans n2)
  clear n2
  go_wp2_with fail
  go_ret2
  refine ⟨w2.heap.size, rfl, ⟨Blk.new w2 _ _, ⟨by simp [newRc], by simp [maxLen], .inl ⟨rfl, rfl, rfl⟩⟩, World.ownsRow_nil _ _ _ _⟩, N2.out.alloc _, N2.out.size⟩
end Go.Proofs.YtnflhjagmngimaaGreatDoor
