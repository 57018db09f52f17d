/-
  Several texts in one, in their build order. Calls that turn nothing, within a region that draws its order (the world stands at the left). Over any program. No condition. The walks of a field's has and set (package bits): a bit read, a bit written. Conditions: the field's bytes lie as told; the number is one of them. The walks of Wrong, Valid, fail, open and caught (package bits) for fields that are right. Condition: at most 4096 bits. The walk of open (package bits) for one field, and Has and Set. Conditions: the field is right; at most 4096 bits.
-/
import Derived.Test.YtnhgichiedninaaGreatDoorM1
import Derived.Deep.QuietTactic
import Derived.BigQuiet
import Derived.Test.YtnhgichiedninaaGreatDoorM3
import Derived.Defers
import Derived.Recover
import Derived.Deep.AppendLies
namespace Go.Proofs.YtnhgichiedninaaGreatDoor
set_option linter.unusedSimpArgs false
set_option linter.unusedVariables false
open Go.RowKit
theorem quiet_add_left {P : Program} {f : FuncId} {args : Array Value} {w : World} {a n : Nat} {v : Value}
    (h : Calls P f args (w.drewN (a + n)) fun e w' => e = .returned v ∧ w.drewN (a + n) = w') :
    Calls P f args (w.drewN (a + n)) fun e w'' => e = .returned v ∧ ∃ m, w'' = w.drewN (a + m) :=
  h.mono fun _ _ ⟨he, hm⟩ => ⟨he, n, hm.symm⟩
theorem quiet_left {P : Program} {f : FuncId} {args : Array Value} {w : World} {n : Nat} {v : Value}
    (h : Calls P f args (w.drewN n) fun e w' => e = .returned v ∧ w.drewN n = w') : Calls P f args (w.drewN n) fun e w'' => e = .returned v ∧ ∃ m, w'' = w.drewN m :=
  h.mono fun _ _ ⟨he, hm⟩ => ⟨he, n, hm.symm⟩
theorem Blk.drewN {w : World} {b : Nat} {cs : Array Value} {t : TypeId} (h : Blk w b cs t) (n : Nat) : Blk (w.drewN n) b cs t := h
theorem Mod.drewN {S : Nat → Prop} {a b : World} (h : Mod S a b) (n : Nat) : Mod S a (b.drewN n) := ⟨h.os, h.tape, h.output, h.size, h.block⟩
end Go.Proofs.YtnhgichiedninaaGreatDoor

namespace Go.Proofs.YtnhgichiedninaaGreatDoor
set_option linter.unusedSimpArgs false
set_option linter.unusedVariables false
open Go.RowKit

theorem and_one (b : UInt8) {j : Nat} (hj : j < 8) : (bits .and .u8 ((b.toNat : Int) / 2 ^ (7 - j)) 1 == 1) = bitB b j := by
  have key : ∀ n : Nat, n < 256 → ∀ j : Nat, j < 8 → (bits .and .u8 ((n : Int) / 2 ^ (7 - j)) 1 == 1) = decide (n / 2 ^ (7 - j) % 2 = 1) := by decide +kernel
  exact key b.toNat b.toNat_lt j hj
set_option maxHeartbeats 1000000 in
theorem bhas_any (n : Int) (g c : Nat) (s : List UInt8) (i : Nat) (w : World) (h : ByAt w g s) (hi : i / 8 < s.length) (hl : s.length ≤ 70000) :
    Calls Tryz.prog 105 #[.agg #[.int .i64 n, .slice (some ⟨g, 0, none⟩) s.length c], .int .i64 i] w fun e w' => e = .returned (.bool (bitL s i)) ∧ New w w' := by
  have hc := h.cell hi
  have hlt := h.lt
  obtain ⟨b, hb⟩ : ∃ b, b = s[i / 8] := ⟨_, rfl⟩
  have HB := hid (show bitL s i = bitB b (i % 8) by unfold bitL; rw [hb, List.getD_eq_getElem?_getD, List.getElem?_eq_getElem hi]; rfl)
  rw [← hb] at hc
  have hq : ((i : Int)).tdiv 8 = ((i / 8 : Nat) : Int) := by rw [Int.tdiv_eq_ediv_of_nonneg (by omega)]; omega
  have hq2 : (i : Int) / 8 = ((i / 8 : Nat) : Int) := by omega
  have hr : ((i : Int)).tmod 8 = ((i % 8 : Nat) : Int) := by rw [Int.tmod_eq_emod_of_nonneg (by omega)]; omega
  have hr2 : (i : Int) % 8 = ((i % 8 : Nat) : Int) := by omega
  have ho := and_one b (j := i % 8) (by omega)
  obtain ⟨K, hK⟩ : ∃ K, K = i / 8 := ⟨_, rfl⟩
  obtain ⟨J, hJ⟩ : ∃ J, J = i % 8 := ⟨_, rfl⟩
  rw [← hK] at hc hq hq2
  rw [← hJ] at hr hr2 ho HB
  have hJ8 : J < 8 := by omega
  have hw : IntKind.i64.wrap (7 - (J : Int)) = 7 - (J : Int) := by rw [IntKind.wrap_i64]; omega
  have hn : ((7 : Int) - (J : Int)).toNat = 7 - J := by omega
  have hKl : K < s.length := by omega
  clear h hb hK hJ
  go_enter Tryz.func105, Tryz.ntmps105
  go_wp2
  go_ret
  exact ⟨ret_bool HB.out.symm, (Mod.refl _ _).alloc _⟩
theorem or_mask (b : UInt8) {j : Nat} (hj : j < 8) : bits .or .u8 (b.toNat : Int) (128 / 2 ^ j) = ((setB b j true).toNat : Int) := by
  have key : ∀ n : Nat, n < 256 → ∀ j : Nat, j < 8 → bits .or .u8 (n : Int) (128 / 2 ^ j) = ((setB (UInt8.ofNat n) j true).toNat : Int) := by decide +kernel
  have := key b.toNat b.toNat_lt j hj
  rwa [UInt8.ofNat_toNat] at this
theorem not_mask (b : UInt8) {j : Nat} (hj : j < 8) : bits .andNot .u8 (b.toNat : Int) (128 / 2 ^ j) = ((setB b j false).toNat : Int) := by
  have key : ∀ n : Nat, n < 256 → ∀ j : Nat, j < 8 → bits .andNot .u8 (n : Int) (128 / 2 ^ j) = ((setB (UInt8.ofNat n) j false).toNat : Int) := by decide +kernel
  have := key b.toNat b.toNat_lt j hj
  rwa [UInt8.ofNat_toNat] at this
set_option maxHeartbeats 1000000 in
theorem bset_any (n : Int) (g c : Nat) (s : List UInt8) (i : Nat) (v : Bool) (w : World) (h : ByAt w g s) (hi : i / 8 < s.length) (hl : s.length ≤ 70000) :
    Calls Tryz.prog 125 #[.agg #[.int .i64 n, .slice (some ⟨g, 0, none⟩) s.length c], .int .i64 i, .bool v] w fun e w' => e = .returned (.tuple #[]) ∧ ByAt w' g (setL s i v) ∧ Mod (fun k => k = g) w w' := by
  have hc := h.cell hi
  have hlt := h.lt
  have hfz := h.frz hi
  obtain ⟨b, hb⟩ : ∃ b, b = s[i / 8] := ⟨_, rfl⟩
  have HS := hid (show ∀ v, s.set (i / 8) (setB b (i % 8) v) = setL s i v from fun v => by unfold setL; rw [hb, List.getD_eq_getElem?_getD, List.getElem?_eq_getElem hi]; rfl)
  rw [← hb] at hc
  have hq : ((i : Int)).tdiv 8 = ((i / 8 : Nat) : Int) := by rw [Int.tdiv_eq_ediv_of_nonneg (by omega)]; omega
  have hq2 : (i : Int) / 8 = ((i / 8 : Nat) : Int) := by omega
  have hr : ((i : Int)).tmod 8 = ((i % 8 : Nat) : Int) := by rw [Int.tmod_eq_emod_of_nonneg (by omega)]; omega
  have hr2 : (i : Int) % 8 = ((i % 8 : Nat) : Int) := by omega
  have ho := or_mask b (j := i % 8) (by omega)
  have hn := not_mask b (j := i % 8) (by omega)
  have HB := hid h
  obtain ⟨K, hK⟩ : ∃ K, K = i / 8 := ⟨_, rfl⟩
  obtain ⟨J, hJ⟩ : ∃ J, J = i % 8 := ⟨_, rfl⟩
  rw [← hK] at hc hq hq2 hfz HS
  rw [← hJ] at hr hr2 ho hn HS
  have hJ8 : J < 8 := by omega
  have hKl : K < s.length := by omega
  have HKL := hid hKl
  clear h hb hK hJ
  cases v with
  | true =>
    go_enter Tryz.func125, Tryz.ntmps125
    go_wp2
    go_end0
    exact ⟨rfl, by rw [← HS.out]; exact (HB.out.set HKL.out _).new ((Mod.refl _ _).alloc _), (Mod.set (S := fun k => k = g) (Mod.refl _ _) ⟨g, K, none⟩ _ (.inl rfl)).alloc _⟩
  | false =>
    go_enter Tryz.func125, Tryz.ntmps125
    go_wp2
    go_end0
    exact ⟨rfl, by rw [← HS.out]; exact (HB.out.set HKL.out _).new ((Mod.refl _ _).alloc _), (Mod.set (S := fun k => k = g) (Mod.refl _ _) ⟨g, K, none⟩ _ (.inl rfl)).alloc _⟩
end Go.Proofs.YtnhgichiedninaaGreatDoor

namespace Go.Proofs.YtnhgichiedninaaGreatDoor
set_option linter.unusedSimpArgs false
set_option linter.unusedVariables false
open Go.RowKit

set_option maxRecDepth 100000 in
set_option maxHeartbeats 1000000 in
theorem bwrong_ok (n : Nat) (s : ByteArray) (w : World) (h : FieldOf n s.data.toList) (hn : n ≤ 4096) :
    Calls Tryz.prog 74 #[.int .i64 n, .string s] w fun e w' => e = .returned (.tuple #[.int .i64 (-1), .int .i64 0]) ∧ New w w' := by
  have hlen : s.data.toList.length = s.size := by rw [Array.length_toList]; rfl
  have hl := h.len
  rw [hlen] at hl
  have hq : ((n : Int) + 7).tdiv 8 = ((s.size : Nat) : Int) := by rw [Int.tdiv_eq_ediv_of_nonneg (by omega)]; omega
  have hq2 : ((n : Int) + 7) / 8 = ((s.size : Nat) : Int) := by omega
  have hw1 : IntKind.i64.wrap ((n : Int) + 7) = (n : Int) + 7 := by rw [IntKind.wrap_i64]; omega
  have hw2 : IntKind.i64.wrap (8 * (s.size : Int)) = 8 * (s.size : Int) := by rw [IntKind.wrap_i64]; omega
  have hcv := fun w => bytes_of w s
  obtain ⟨cap, hcap⟩ : ∃ cap, cap = grownCap w s.size 0 5 := ⟨_, rfl⟩
  have HBY := hid (bytes_lie w s rfl)
  have HBN := hid (bytes_new w s)
  have hcw := hcv w
  rw [← hcap] at hcw
  obtain ⟨W, hW⟩ : ∃ W, W = afterBytes w s := ⟨_, rfl⟩
  rw [← hW] at hcw HBY HBN
  have hWs : W.heap.size = w.heap.size + 1 := by rw [hW]; simp
  have HR := hid h.rest
  have HH := hid (fun (i : Nat) (W' : World) (q : New W W') (hi : i < 8 * s.size) => bhas_any n w.heap.size cap s.data.toList i W' (HBY.out.new q) (by rw [hlen]; omega) (by rw [hlen]; omega))
  rw [hlen] at HH
  have hs5 : s.size ≤ 600 := by omega
  have hns : n ≤ 8 * s.size := by omega
  clear hcv hW hl h hcap
  go_enter Tryz.func74, Tryz.ntmps74
  go_wp2
  have KB := hid (Blk.new W #[.int .i64 n, .slice (some ⟨w.heap.size, 0, none⟩) s.size cap] 163)
  go_loopw [8] (fun x wr => ∃ k : Nat, x = .int .i64 k ∧ n ≤ k ∧ k ≤ 8 * s.size ∧ New (W.alloc (.cells #[.int .i64 n, .slice (some ⟨w.heap.size, 0, none⟩) s.size cap] 163)) wr) (fun x _ => 8 * s.size - (intOf x).toNat)
  case atStart => exact ⟨n, rfl, Nat.le_refl _, hns, Mod.refl _ _⟩
  case round =>
    obtain ⟨k, rfl, hk0, hk, hn'⟩ := hrel
    have HN := hid hn'
    by_cases hlt : k < 8 * s.size
    · have hltI : (k : Int) < 8 * (s.size : Int) := by omega
      have kb : Blk wr (w.heap.size + 1) #[.int .i64 n, .slice (some ⟨w.heap.size, 0, none⟩) s.size cap] 163 := by rw [← hWs]; exact New.blk hn' KB.out
      have c0 := kb.cellv 0 rfl; have c1 := kb.cellv 1 rfl; have cl := kb.lt
      have hx := HH.out k wr (((Mod.refl _ _).alloc _).trans hn') hlt
      rw [HR.out k hk0] at hx
      have HX := hid hx
      clear hx kb hn'
      go_wp2_with fail
      refine HX.out.mono ?_
      rintro e w2 ⟨rfl, n2⟩
      have N2 := hid (HN.out.trans n2)
      clear n2
      go_wp2
      exact ⟨⟨k + 1, by simp, by omega, by omega, N2.out⟩, by simp [intOf]; omega⟩
    · have hltI : ¬ (k : Int) < 8 * (s.size : Int) := by omega
      clear hn'
      go_wp2
      go_ret2
      exact ⟨rfl, HBN.out.trans (((Mod.refl _ _).alloc _).trans HN.out)⟩
set_option maxHeartbeats 1000000 in
theorem bwrong_size (n : Nat) (s : ByteArray) (w : World) (h : s.size ≠ (n + 7) / 8) (hn : n ≤ 4096) (hs : s.size ≤ maxLen) :
    Calls Tryz.prog 74 #[.int .i64 n, .string s] w fun e w' => (∃ x, e = .returned (.tuple #[.int .i64 x, .int .i64 11])) ∧ New w w' := by
  unfold maxLen at hs
  have hq : ((n : Int) + 7).tdiv 8 = (((n + 7) / 8 : Nat) : Int) := by rw [Int.tdiv_eq_ediv_of_nonneg (by omega)]; omega
  have hq2 : ((n : Int) + 7) / 8 = (((n + 7) / 8 : Nat) : Int) := by omega
  have hw1 : IntKind.i64.wrap ((n : Int) + 7) = (n : Int) + 7 := by rw [IntKind.wrap_i64]; omega
  obtain ⟨K, hK⟩ : ∃ K, K = (n + 7) / 8 := ⟨_, rfl⟩
  rw [← hK] at hq hq2 h
  have hb : ((s.size : Int) != (K : Int)) = true := by rw [bne_iff_ne]; omega
  clear hK
  go_enter Tryz.func74, Tryz.ntmps74
  go_wp2
  all_goals
    go_ret2
    exact ⟨⟨_, rfl⟩, Mod.refl _ _⟩
theorem bvalid_ok (n : Nat) (s : ByteArray) (w : World) (h : FieldOf n s.data.toList) (hn : n ≤ 4096) :
    Calls Tryz.prog 34 #[.int .i64 n, .string s] w fun e w' => e = .returned (.bool true) ∧ New w w' := by
  have HW := hid (bwrong_ok n s w h hn)
  clear h
  go_enter Tryz.func34, Tryz.ntmps34
  go_wp2_with fail
  refine HW.out.mono ?_
  rintro e w1 ⟨rfl, n1⟩
  have N1 := hid n1
  clear n1
  go_wp2
  go_ret
  exact ⟨rfl, N1.out⟩
/-- What a call stops with. -/
def toldB (k : Int) : List PanicEntry := [{ v := .iface 217 (.int .i64 k), recovered := false }]
theorem bfail_raise (k : Int) (w : World) : Calls Tryz.prog 124 #[.bool true, .int .i64 k] w fun e w' => e = .panicked (toldB k) ∧ w = w' := by
  go_enter Tryz.func124, Tryz.ntmps124
  go_wp2
  exact ⟨rfl, rfl, rfl⟩
theorem bfail_pass (k : Int) (w : World) : Calls Tryz.prog 124 #[.bool false, .int .i64 k] w fun e w' => e = .returned (.tuple #[]) ∧ w = w' := by
  go_enter Tryz.func124, Tryz.ntmps124
  go_wp2
  go_end0
  exact ⟨rfl, rfl⟩
theorem bcaught_idle (p : Addr) (w : World) :
    CallsD Tryz.prog 122 #[.pointer (some p)] .returning w fun e u' w' => e = .returned (.tuple #[]) ∧ u' = .returning ∧ w' = w := by
  refine callsD_of_wpS Tryz.func122 rfl fun c₀ cs hu => ?_
  apply wpS_seq
  apply wpS_region
  simp [wpOpsS, go_sem, recoverD, hu, Tryz.ntmps122, Exit.thenS]
  apply wpS_seq
  refine wpS_of_wp ?_
  go_wp2
  refine wpS_cond (t := false) (by simp [Act.eval, Array.replicate]) ?_
  simp only [Bool.false_eq_true, if_false]
  refine wpS_of_wp (wp_skip ?_)
  cases c₀
  simp_all [bodyPostS, results, Tryz.results122]
set_option maxRecDepth 100000 in
set_option maxHeartbeats 1000000 in
theorem bcaught_told (q : Nat) (k : Int) (w : World) (hq : Blk w q #[.int .i64 0] 28) :
    CallsD Tryz.prog 122 #[.pointer (some ⟨q, 0, none⟩)] (.panicking (toldB k)) w fun e u' w' =>
      e = .returned (.tuple #[]) ∧ u' = .panicking [{ v := .iface 217 (.int .i64 k), recovered := true }] ∧ Blk w' q #[.int .i64 k] 28 ∧ Mod (fun j => j = q) w w' := by
  obtain ⟨q1, q2, q3⟩ := hq.one
  have HQ := hid hq
  clear hq
  unfold toldB
  have hta : ∀ (x : Int) (w : World), (Instr.typeAssert (.iface 217 (.int .i64 x)) 20 217 true).run Tryz.prog w = .ok (.tuple #[.int .i64 x, .bool true]) w := fun _ _ => by simp [Instr.typeAssert, run_underlying Tryz.underlying217, Result.andThen]
  refine callsD_of_wpS Tryz.func122 rfl fun c₀ cs hu => ?_
  apply wpS_seq
  apply wpS_region
  simp [wpOpsS, go_sem, recoverD, hu, Tryz.ntmps122, Exit.thenS, show Array.replicate 18 undef = #[undef, undef, undef, undef, undef, undef, undef, undef, undef, undef, undef, undef, undef, undef, undef, undef, undef, undef] from rfl]
  apply wpS_seq
  refine wpS_of_wp ?_
  go_wp2
  refine wpS_cond (t := true) (by simp [Act.eval, Array.replicate]) ?_
  simp only [if_true]
  refine wpS_of_wp ?_
  go_wp2
  refine ⟨rfl, .panicking [{ v := .iface 217 (.int .i64 k), recovered := true }], ?_, .tuple #[], by simp [results, Tryz.results122], rfl, rfl, ?_, ?_⟩
  · first | rfl | (simp; done) | (cases c₀; simp_all)
  · apply Blk.row
    · repeat (first | with_reducible exact HQ.out | (with_reducible apply Blk.newAt; (simp; done)) | with_reducible apply Blk.alloc | with_reducible apply Blk.drew | with_reducible apply Blk.drewN | with_reducible apply Blk.set | (with_reducible apply Blk.other; · first | (simp; done) | (simp; omega) | omega) | (with_reducible apply Blk.putObj; · first | (simp; done) | (simp; omega) | omega))
    · rfl
  · repeat (first | with_reducible exact Mod.refl _ _ | with_reducible refine Mod.alloc ?_ _ | with_reducible refine Mod.drew ?_ | with_reducible refine Mod.drewN ?_ _ | (with_reducible refine Mod.set ?_ _ _ (by first | exact .inl rfl | (right; omega) | (right; simp; done) | (right; simp; omega) | (left; omega) | (left; simp; done) | (left; simp; omega))) | (with_reducible refine Mod.putObj ?_ _ _ (by first | exact .inl rfl | (right; omega) | (right; simp; done) | (right; simp; omega) | (left; omega) | (left; simp; done) | (left; simp; omega))))
end Go.Proofs.YtnhgichiedninaaGreatDoor

namespace Go.Proofs.YtnhgichiedninaaGreatDoor
set_option linter.unusedSimpArgs false
set_option linter.unusedVariables false
open Go.RowKit

theorem info_field : (Tryz.prog.info? 163).map (fun i => (i.zero, i.size, i.bytes)) = some (some (.agg #[.int .i64 0, .slice none 0 0]), 2, 32) := by kernel_rfl
theorem two_new (w : World) (x y : Value) (t : TypeId) {b : Nat} (hb : b = w.heap.size) : ∀ (j : Nat) (u : Value), [x, y][j]? = some u → (w.alloc (.cells #[x, y] t)).cell? ((⟨b, 0, none⟩ : Addr).add j) = some u := by
  intro j u hj
  have hadd : ∀ k, (⟨b, 0, none⟩ : Addr).add k = ⟨b, 0 + k, none⟩ := fun k => by unfold Addr.add; split <;> simp_all
  rw [hadd]
  have hB := Blk.newAt (cs := #[x, y]) (t := t) hb
  match j, hj with
  | 0, hj => simp at hj; subst hj; exact hB.cellv 0 rfl
  | 1, hj => simp at hj; subst hj; exact hB.cellv 1 rfl
/-- What open answers for one field: its list, and its bytes. -/
def Opened (w : World) (base : Nat) (v : Value) (n : Nat) (s : ByteArray) : Prop :=
  ∃ (G cap B cb : Nat), v = .slice (some ⟨G, 0, none⟩) 1 cap ∧ 1 ≤ cap ∧ cap ≤ maxLen ∧ G < w.heap.size ∧ w.cell? ⟨G, 0, none⟩ = some (.int .i64 n) ∧ w.cell? ⟨G, 1, none⟩ = some (.slice (some ⟨B, 0, none⟩) s.size cb) ∧ ByAt w B s.data.toList ∧ base ≤ B
theorem Opened.new {w w' : World} {base : Nat} {v : Value} {n : Nat} {s : ByteArray} (h : Opened w base v n s) (hn : New w w') : Opened w' base v n s := by
  obtain ⟨G, cap, B, cb, h1, h2, h3, h4, h5, h6, h7, h8⟩ := h
  exact ⟨G, cap, B, cb, h1, h2, h3, Nat.lt_of_lt_of_le h4 hn.size, New.cellv hn h5, New.cellv hn h6, h7.new hn, h8⟩
set_option maxRecDepth 100000 in
set_option maxHeartbeats 2000000 in
theorem bopen_one (n : Nat) (s : ByteArray) (a c : Nat) (w : World) (h : FieldOf n s.data.toList) (hn : n ≤ 4096) (ha : w.cell? ⟨a, 0, none⟩ = some (.string s)) (hc : 1 ≤ c) (hc2 : c ≤ maxLen) :
    Calls Tryz.prog 123 #[.int .i64 n, .slice (some ⟨a, 0, none⟩) 1 c] w fun e w' => ∃ v, e = .returned v ∧ Opened w' w.heap.size v n s ∧ New w w' := by
  unfold maxLen at hc2
  have HW := hid (fun W => bwrong_ok n s W h hn)
  have hlen : s.data.toList.length = s.size := by rw [Array.length_toList]; rfl
  have hl := h.len
  rw [hlen] at hl
  have hss : s.size ≤ 600 := by omega
  have hal := World.block_lt_of_cell? _ _ ha
  have HA := hid ha
  obtain ⟨i0, hi, hz0, hz1, hz2⟩ := info_parts info_field
  have hd1 : decide ((n : Int) < 0) = false := decide_eq_false (by omega)
  have hd2 : decide (4096 < (n : Int)) = false := decide_eq_false (by omega)
  clear h hlen hl ha
  go_enter Tryz.func123, Tryz.ntmps123
  go_wp2_with (first | (go_at_call 124; refine (bfail_pass _ _).mono ?_; rintro e w1 ⟨rfl, rfl⟩) | fail)
  go_loopw [5, 19] (fun v i wr => ∃ k : Nat, i = .int .i64 k ∧ ((k = 0 ∧ v = .slice none 0 0 ∧ New w wr) ∨ (k = 1 ∧ Opened wr w.heap.size v n s ∧ New w wr))) (fun _ i _ => 1 - (intOf i).toNat)
  case atStart => exact ⟨0, rfl, .inl ⟨rfl, rfl, Mod.refl _ _⟩⟩
  case round =>
    obtain ⟨k, rfl, ⟨rfl, rfl, hn'⟩ | ⟨rfl, ho, hn'⟩⟩ := hrel
    · have HN := hid hn'
      have ca := New.cellv hn' HA.out
      have cl : a < wr.heap.size := World.block_lt_of_cell? _ _ ca
      clear hn'
      go_wp2_with fail
      refine (HW.out _).mono ?_
      rintro e w1 ⟨rfl, n1⟩
      have N1 := hid (HN.out.trans n1)
      clear n1
      have hcv := bytes_of w1 s
      obtain ⟨cap, hcap⟩ : ∃ cap, cap = grownCap w1 s.size 0 5 := ⟨_, rfl⟩
      rw [← hcap] at hcv
      have HBY := hid (bytes_lie w1 s rfl)
      have HBN := hid (N1.out.trans (bytes_new w1 s))
      obtain ⟨W, hW⟩ : ∃ W, W = afterBytes w1 s := ⟨_, rfl⟩
      rw [← hW] at hcv HBY HBN
      have hWs : W.heap.size = w1.heap.size + 1 := by rw [hW]; simp
      clear hW hcap
      go_wp2_with (first | (go_at_call 124; refine (bfail_pass _ _).mono ?_; rintro e w1 ⟨rfl, rfl⟩) | (at_builtin; refine wpList_append_own_at _ rfl _ _ 179 rfl w.heap.size 163 i0 _ 2 32 Tryz.underlying179 hi hz0 hz1 hz2 rfl (by decide) (.slice none 0 0) 0 [] rfl ?ow ⟨w1.heap.size + 1, 0, none⟩ 1 1 [.int .i64 n, .slice (some ⟨w1.heap.size, 0, none⟩) s.size cap] rfl rfl ?hn ?h1 ?h63 ?hby ?hba ?_) | fail)
      case ow => exact World.ownsRow_nil _ _ _ _
      case hn => exact two_new W _ _ _ hWs.symm
      case h1 => intro u hu; simp at hu; rcases hu with rfl | rfl <;> rfl
      case h63 => unfold maxLen; omega
      case hby => omega
      case hba => have := HBN.out.size; simp; omega
      intro o4 w4 r4 g4 hne _
      have HN4 : Hid (New w w4) := hid (newGrown (HBN.out.alloc _) g4 (fun j hj => by cases hj))
      have HOP : Hid (Opened w4 w.heap.size o4 n s) := hid (by
        rcases r4.2 with ⟨q, -⟩ | ⟨G, cap', cur, rfl, hbg, hg, hnc, hcm, hcs, htake⟩
        · exact absurd q hne
        · have hb : Blk w4 G cur 163 := hg
          have hc' : ∀ (j : Nat) (u : Value), j < 2 → [Value.int .i64 n, Value.slice (some ⟨w1.heap.size, 0, none⟩) s.size cap][j]? = some u → w4.cell? ⟨G, j, none⟩ = some u := by
            intro j u hj hu
            have h1 := World.ownsRow.cells (g := G) r4 rfl j u hu
            have hadd : ∀ k, (⟨G, 0, none⟩ : Addr).add k = ⟨G, 0 + k, none⟩ := fun k => by unfold Addr.add; split <;> simp_all
            rw [hadd, Nat.zero_add] at h1
            exact h1
          refine ⟨G, cap', w1.heap.size, cap, rfl, hnc, hcm, hb.lt, hc' 0 _ (by omega) rfl, hc' 1 _ (by omega) rfl, ?_, N1.out.size⟩
          have hby := (HBY.out.new ((Mod.refl _ _).alloc (.cells #[.int .i64 n, .slice (some ⟨w1.heap.size, 0, none⟩) s.size cap] 163)))
          exact hby.of_heap (g4.block _ hby.lt (fun q => by cases q)))
      clear r4 g4
      go_wp2
      exact ⟨⟨1, by simp, .inr ⟨rfl, HOP.out, HN4.out⟩⟩, by simp [intOf]⟩
    · have HO := hid ho; have HN := hid hn'
      clear ho hn'
      go_wp2
      go_ret
      exact ⟨_, rfl, HO.out, HN.out⟩
set_option maxRecDepth 100000 in
set_option maxHeartbeats 2000000 in
theorem bHas_any (n i : Nat) (s : ByteArray) (w : World) (h : FieldOf n s.data.toList) (hn : n ≤ 4096) (hi : i < n) :
    Calls Tryz.prog 147 #[.int .i64 n, .string s, .int .i64 i] w fun e w' => e = .returned (.tuple #[.bool (bitL s.data.toList i), .int .i64 0]) ∧ New w w' := by
  have hlen : s.data.toList.length = s.size := by rw [Array.length_toList]; rfl
  have hl := h.len
  rw [hlen] at hl
  have HOP := hid (fun a W (q : W.cell? ⟨a, 0, none⟩ = some (.string s)) => bopen_one n s a 1 W h hn q (Nat.le_refl _) (by unfold maxLen; omega))
  have hss : s.size ≤ 600 := by omega
  have hi8 : i / 8 < s.size := by omega
  have hd4 : decide (n ≤ i) = false := decide_eq_false (by omega)
  clear hl
  have hd1 : decide ((i : Int) < 0) = false := decide_eq_false (by omega)
  have hd2 : decide ((i : Int) ≥ (n : Int)) = false := decide_eq_false (by omega)
  have hd3 : decide ((n : Int) ≤ (i : Int)) = false := decide_eq_false (by omega)
  obtain ⟨R, hR⟩ : ∃ R, R = bitL s.data.toList i := ⟨_, rfl⟩
  rw [← hR]
  have HR := hid hR
  clear h hR
  go_enter_defers Tryz.func147, Tryz.ntmps147
  go_wp2_with fail
  refine (HOP.out _ _ ((Blk.newAt (by simp)).cellv 0 rfl)).mono ?_
  rintro e w1 ⟨v, rfl, ⟨G, cap, B, cb, rfl, h1, h2, h3, h4, h5, h6, h7⟩, n1⟩
  have N1 : Hid (New w w1) := hid ((((Mod.refl _ w).alloc (.cells #[.int .i64 0] 28)).alloc (.cells #[.string s] 9) : New w _).trans n1)
  have E1 : Hid (Blk w1 w.heap.size #[.int .i64 0] 28) := hid (New.blk n1 ((Blk.new _ _ _).alloc _))
  have HBY := hid h6
  have e0 := E1.out.cellv 0 rfl; have el := E1.out.lt; have ef := E1.out.frz 0
  unfold maxLen at h2
  clear h6 h7 n1
  have HHA := hid (fun W (q : New w1 W) => bhas_any n B cb s.data.toList i W (HBY.out.new q) (by rw [hlen]; exact hi8) (by rw [hlen]; omega))
  rw [hlen] at HHA
  rw [← HR.out] at HHA
  have hv1 : G < w1.heap.size := h3
  go_wp2_with (first | (go_at_call 124; refine (bfail_pass _ _).mono ?_; rintro e w2 ⟨rfl, rfl⟩) | fail)
  refine (HHA.out _ ((Mod.refl _ _).alloc _)).mono ?_
  rintro e w2 ⟨rfl, n2⟩
  have M2 : Hid (New w1 w2) := hid ((((Mod.refl _ w1).alloc (.cells #[.int .i64 n, .slice (some ⟨B, 0, none⟩) s.size cb] 163)) : New w1 _).trans n2)
  have E2 := hid (New.blk M2.out E1.out)
  clear n2 e0 el ef
  have e0 := E2.out.cellv 0 rfl; have el := E2.out.lt; have ef := E2.out.frz 0
  go_wp2
  refine leaves_cons (f := 122) (args := #[.pointer (some ⟨w.heap.size, 0, none⟩)]) (by simp) (by simp [go_sem]) ?_
  refine (bcaught_idle ⟨w.heap.size, 0, none⟩ _).mono ?_
  rintro e u' w3 ⟨rfl, rfl, rfl⟩
  have q1 : (w2.setCell ⟨w.heap.size, 0, none⟩ (.int .i64 0)).cell? ⟨w.heap.size, 0, none⟩ = some (.int .i64 0) := (E2.out.set 0 (.int .i64 0)).cellv 0 rfl
  refine ⟨.tuple #[.bool R, .int .i64 0], by simp [results, Tryz.results147, go_sem, q1], rfl, ?_⟩
  exact Mod.set (N1.out.trans M2.out) _ _ (.inr (Nat.le_refl _))
set_option maxRecDepth 100000 in
set_option maxHeartbeats 2000000 in
theorem bSet_any (n i : Nat) (s : ByteArray) (v : Bool) (w : World) (h : FieldOf n s.data.toList) (hn : n ≤ 4096) (hi : i < n) :
    Calls Tryz.prog 82 #[.int .i64 n, .string s, .int .i64 i, .bool v] w fun e w' => e = .returned (.tuple #[.string ⟨(setL s.data.toList i v).toArray⟩, .int .i64 0]) ∧ New w w' := by
  have hlen : s.data.toList.length = s.size := by rw [Array.length_toList]; rfl
  have hl := h.len
  rw [hlen] at hl
  have HOP := hid (fun a W (q : W.cell? ⟨a, 0, none⟩ = some (.string s)) => bopen_one n s a 1 W h hn q (Nat.le_refl _) (by unfold maxLen; omega))
  have hss : s.size ≤ 600 := by omega
  have hi8 : i / 8 < s.size := by omega
  have hd4 : decide (n ≤ i) = false := decide_eq_false (by omega)
  clear hl
  have hd1 : decide ((i : Int) < 0) = false := decide_eq_false (by omega)
  have hd2 : decide ((i : Int) ≥ (n : Int)) = false := decide_eq_false (by omega)
  have hd3 : decide ((n : Int) ≤ (i : Int)) = false := decide_eq_false (by omega)
  obtain ⟨R, hR⟩ : ∃ R : List UInt8, R = setL s.data.toList i v := ⟨_, rfl⟩
  rw [← hR]
  have HR := hid hR
  have HRL := hid (show s.size = R.length by rw [hR, setL_len, hlen])
  clear h hR
  go_enter_defers Tryz.func82, Tryz.ntmps82
  go_wp2_with fail
  refine (HOP.out _ _ ((Blk.newAt (by simp)).cellv 0 rfl)).mono ?_
  rintro e w1 ⟨v1, rfl, ⟨G, cap, B, cb, rfl, h1, h2, h3, h4, h5, h6, h7⟩, n1⟩
  have N1 : Hid (New w w1) := hid ((((Mod.refl _ w).alloc (.cells #[.int .i64 0] 28)).alloc (.cells #[.string s] 9) : New w _).trans n1)
  have E1 : Hid (Blk w1 w.heap.size #[.int .i64 0] 28) := hid (New.blk n1 ((Blk.new _ _ _).alloc _))
  have HBY := hid h6
  have HB7 : Hid (w.heap.size + 2 ≤ B) := hid (by simpa using h7)
  have e0 := E1.out.cellv 0 rfl; have el := E1.out.lt; have ef := E1.out.frz 0
  unfold maxLen at h2
  clear h6 h7 n1
  have HHA := hid (fun W (q : New w1 W) => bset_any n B cb s.data.toList i v W (HBY.out.new q) (by rw [hlen]; exact hi8) (by rw [hlen]; omega))
  rw [hlen] at HHA
  rw [← HR.out] at HHA
  have hv1 : G < w1.heap.size := h3
  go_wp2_with (first | (go_at_call 124; refine (bfail_pass _ _).mono ?_; rintro e w2 ⟨rfl, rfl⟩) | fail)
  have KB := hid (Blk.new w1 #[.int .i64 n, .slice (some ⟨B, 0, none⟩) s.size cb] 163)
  refine (HHA.out _ ((Mod.refl _ _).alloc _)).mono ?_
  rintro e w2 ⟨rfl, hb2, m2⟩
  have M2 : Hid (Mod (fun k => k = B) w1 w2) := hid ((((Mod.refl _ w1).alloc (.cells #[.int .i64 n, .slice (some ⟨B, 0, none⟩) s.size cb] 163))).trans m2)
  have HB7' := HB7.out
  have hBl : B < w1.heap.size := HBY.out.lt
  have E2 := hid (M2.out.blk E1.out (by omega))
  have K2 := hid (m2.blk KB.out (by omega))
  have HT2 := hid (hb2.text s.size cb HRL.out)
  clear hb2 m2 e0 el ef
  have e0 := E2.out.cellv 0 rfl; have el := E2.out.lt; have ef := E2.out.frz 0
  have k1 := K2.out.cellv 1 rfl; have kl := K2.out.lt
  have ht := HT2.out
  go_wp2
  refine leaves_cons (f := 122) (args := #[.pointer (some ⟨w.heap.size, 0, none⟩)]) (by simp) (by simp [go_sem]) ?_
  refine (bcaught_idle ⟨w.heap.size, 0, none⟩ _).mono ?_
  rintro e u' w3 ⟨rfl, rfl, rfl⟩
  have q1 : (w2.setCell ⟨w.heap.size, 0, none⟩ (.int .i64 0)).cell? ⟨w.heap.size, 0, none⟩ = some (.int .i64 0) := (E2.out.set 0 (.int .i64 0)).cellv 0 rfl
  refine ⟨.tuple #[.string ⟨R.toArray⟩, .int .i64 0], by simp [results, Tryz.results82, go_sem, q1], rfl, ?_⟩
  exact Mod.set (N1.out.trans' M2.out (fun k hk q => by omega)) _ _ (.inr (Nat.le_refl _))
end Go.Proofs.YtnhgichiedninaaGreatDoor
