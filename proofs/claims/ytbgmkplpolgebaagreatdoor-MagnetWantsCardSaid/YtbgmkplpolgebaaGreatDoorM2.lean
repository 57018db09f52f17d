/-
  Several texts in one, in their build order. Fields of bits told in plain words: which bit stands where in a row of bytes, a bit that is set, a field's shape. Plain Lean, no program. No condition. Calls that turn nothing, within a region that draws its order (the world stands at the left). Over any program. No condition. The walks of a field's has and set (package bits): a bit read, a bit written. Conditions: the field's bytes lie as told; the number is one of them. The walks of Wrong, Valid, fail, open and caught (package bits) for fields that are right. Condition: at most 4096 bits. The walk of open (package bits) for one field, and Has and Set. Conditions: the field is right; at most 4096 bits.
-/
import Derived.Test.YtbgmkplpolgebaaGreatDoorM1
import Derived.Deep.QuietTactic
import Derived.BigQuiet
import Derived.Defers
import Derived.Recover
import Derived.Deep.AppendLies
namespace Go.Proofs.YtbgmkplpolgebaaGreatDoor
set_option linter.unusedSimpArgs false
set_option linter.unusedVariables false

/-- The bit j of a byte, from the greatest on. -/
def bitB (b : UInt8) (j : Nat) : Bool := decide (b.toNat / 2 ^ (7 - j) % 2 = 1)
def maskN (j : Nat) : Nat := 128 / 2 ^ j
def setB (b : UInt8) (j : Nat) (v : Bool) : UInt8 := if v then b ||| UInt8.ofNat (maskN j) else b &&& ~~~ (UInt8.ofNat (maskN j))
theorem set_bit (b : UInt8) {i j : Nat} (v : Bool) (hi : i < 8) (hj : j < 8) : bitB (setB b i v) j = if j = i then v else bitB b j := by
  have key : ∀ n : Nat, n < 256 → ∀ i, i < 8 → ∀ j, j < 8 → (bitB (setB (UInt8.ofNat n) i true) j = if j = i then true else bitB (UInt8.ofNat n) j) ∧ (bitB (setB (UInt8.ofNat n) i false) j = if j = i then false else bitB (UInt8.ofNat n) j) := by decide +kernel
  have h := key b.toNat b.toNat_lt i hi j hj
  rw [UInt8.ofNat_toNat] at h
  cases v
  · exact h.2
  · exact h.1
theorem byte_ext {a b : UInt8} (h : ∀ j, j < 8 → bitB a j = bitB b j) : a = b := by
  have key : ∀ n : Nat, n < 256 → n = (if bitB (UInt8.ofNat n) 0 then 128 else 0) + (if bitB (UInt8.ofNat n) 1 then 64 else 0) + (if bitB (UInt8.ofNat n) 2 then 32 else 0) + (if bitB (UInt8.ofNat n) 3 then 16 else 0) + (if bitB (UInt8.ofNat n) 4 then 8 else 0) + (if bitB (UInt8.ofNat n) 5 then 4 else 0) + (if bitB (UInt8.ofNat n) 6 then 2 else 0) + (if bitB (UInt8.ofNat n) 7 then 1 else 0) := by decide +kernel
  have ha := key a.toNat a.toNat_lt
  have hb := key b.toNat b.toNat_lt
  rw [UInt8.ofNat_toNat] at ha hb
  apply UInt8.toNat_inj.1
  rw [ha, hb, h 0 (by omega), h 1 (by omega), h 2 (by omega), h 3 (by omega), h 4 (by omega), h 5 (by omega), h 6 (by omega), h 7 (by omega)]
theorem bit_zero (j : Nat) : bitB 0 j = false := by
  unfold bitB
  rw [decide_eq_false_iff_not]
  show ¬ 0 / 2 ^ (7 - j) % 2 = 1
  rw [Nat.zero_div]
  omega
/-- The bit i of a row of bytes. -/
def bitL (s : List UInt8) (i : Nat) : Bool := bitB (s.getD (i / 8) 0) (i % 8)
def setL (s : List UInt8) (i : Nat) (v : Bool) : List UInt8 := s.set (i / 8) (setB (s.getD (i / 8) 0) (i % 8) v)
theorem setL_len (s : List UInt8) (i : Nat) (v : Bool) : (setL s i v).length = s.length := by unfold setL; simp
theorem bitL_set {s : List UInt8} {i : Nat} (v : Bool) (h : i / 8 < s.length) (j : Nat) : bitL (setL s i v) j = if j = i then v else bitL s j := by
  unfold bitL setL
  rw [List.getD_eq_getElem?_getD, List.getElem?_set]
  by_cases e : i / 8 = j / 8
  · rw [if_pos e, if_pos (by omega)]
    simp only [Option.getD_some]
    rw [set_bit _ _ (by omega) (by omega), e]
    by_cases e2 : j = i
    · subst e2; rw [if_pos rfl, if_pos rfl]
    · rw [if_neg (by omega), if_neg e2]
  · rw [if_neg e, if_neg (by intro q; subst q; exact e rfl), ← List.getD_eq_getElem?_getD]
theorem rows_ext : ∀ {s t : List UInt8}, s.length = t.length → (∀ i, i < 8 * s.length → bitL s i = bitL t i) → s = t := by
  intro s t hl h
  apply List.ext_getElem hl
  intro k h1 h2
  apply byte_ext
  intro j hj
  have := h (8 * k + j) (by omega)
  unfold bitL at this
  rw [show (8 * k + j) / 8 = k by omega, show (8 * k + j) % 8 = j by omega, List.getD_eq_getElem?_getD, List.getD_eq_getElem?_getD, List.getElem?_eq_getElem h1, List.getElem?_eq_getElem h2] at this
  exact this
theorem bitL_zero (k i : Nat) : bitL (List.replicate k 0) i = false := by
  unfold bitL
  rw [List.getD_eq_getElem?_getD, List.getElem?_replicate]
  split <;> exact bit_zero _
/-- A row of bytes that is a field of n bits. -/
structure FieldOf (n : Nat) (s : List UInt8) : Prop where
  len : s.length = (n + 7) / 8
  rest : ∀ i, n ≤ i → bitL s i = false
theorem bitL_out {s : List UInt8} {i : Nat} (h : 8 * s.length ≤ i) : bitL s i = false := by
  unfold bitL
  rw [List.getD_eq_getElem?_getD, List.getElem?_eq_none (by omega)]
  exact bit_zero _
theorem FieldOf.set {n : Nat} {s : List UInt8} (h : FieldOf n s) {i : Nat} (hi : i < n) (v : Bool) : FieldOf n (setL s i v) := by
  have hl := h.len
  refine ⟨by rw [setL_len]; exact hl, fun j hj => ?_⟩
  rw [bitL_set v (by omega), if_neg (by omega)]
  exact h.rest j hj
theorem FieldOf.bit_set {n : Nat} {s : List UInt8} (h : FieldOf n s) {i : Nat} (hi : i < n) (v : Bool) (j : Nat) : bitL (setL s i v) j = if j = i then v else bitL s j :=
  bitL_set v (by have := h.len; omega) j
theorem FieldOf.zero (n : Nat) : FieldOf n (List.replicate ((n + 7) / 8) 0) := ⟨by simp, fun _ _ => bitL_zero _ _⟩
theorem FieldOf.ext {n : Nat} {s t : List UInt8} (h : FieldOf n s) (k : FieldOf n t) (hb : ∀ i, i < n → bitL s i = bitL t i) : s = t := by
  refine rows_ext (h.len.trans k.len.symm) (fun i hi => ?_)
  by_cases hn : i < n
  · exact hb i hn
  · rw [h.rest i (by omega), k.rest i (by omega)]
end Go.Proofs.YtbgmkplpolgebaaGreatDoor

namespace Go.Proofs.YtbgmkplpolgebaaGreatDoor
set_option linter.unusedSimpArgs false
set_option linter.unusedVariables false
open Go.RowKit
theorem Blk.drewN {w : World} {b : Nat} {cs : Array Value} {t : TypeId} (h : Blk w b cs t) (n : Nat) : Blk (w.drewN n) b cs t := h
theorem Mod.drewN {S : Nat → Prop} {a b : World} (h : Mod S a b) (n : Nat) : Mod S a (b.drewN n) := ⟨h.os, h.tape, h.output, h.size, h.block⟩
end Go.Proofs.YtbgmkplpolgebaaGreatDoor

namespace Go.Proofs.YtbgmkplpolgebaaGreatDoor
set_option linter.unusedSimpArgs false
set_option linter.unusedVariables false
open Go.RowKit

theorem and_one (b : UInt8) {j : Nat} (hj : j < 8) : (bits .and .u8 ((b.toNat : Int) / 2 ^ (7 - j)) 1 == 1) = bitB b j := by
  have key : ∀ n : Nat, n < 256 → ∀ j : Nat, j < 8 → (bits .and .u8 ((n : Int) / 2 ^ (7 - j)) 1 == 1) = decide (n / 2 ^ (7 - j) % 2 = 1) := by decide +kernel
  exact key b.toNat b.toNat_lt j hj
set_option maxHeartbeats 1000000 in
theorem bhas_any (n : Int) (g c : Nat) (s : List UInt8) (i : Nat) (w : World) (h : ByAt w g s) (hi : i / 8 < s.length) (hl : s.length ≤ 70000) :
    Calls Tryz.prog 176 #[.agg #[.int .i64 n, .slice (some ⟨g, 0, none⟩) s.length c], .int .i64 i] w fun e w' => e = .returned (.bool (bitL s i)) ∧ New w w' := by
  have hc := h.cell hi
  have hlt := h.lt
  obtain ⟨b, hb⟩ : ∃ b, b = s[i / 8] := ⟨_, rfl⟩
  have HB := hid (show bitL s i = bitB b (i % 8) by unfold bitL; rw [hb, List.getD_eq_getElem?_getD, List.getElem?_eq_getElem hi]; rfl)
  rw [← hb] at hc
  have hq : ((i : Int)).tdiv 8 = ((i / 8 : Nat) : Int) := by rw [Int.tdiv_eq_ediv_of_nonneg (by omega)]; omega
  have hq2 : (i : Int) / 8 = ((i / 8 : Nat) : Int) := by omega
  have hr : ((i : Int)).tmod 8 = ((i % 8 : Nat) : Int) := by rw [Int.tmod_eq_emod_of_nonneg (by omega)]; omega
  have hr2 : (i : Int) % 8 = ((i % 8 : Nat) : Int) := by omega
  have ho := and_one b (j := i % 8) (by omega)
  obtain ⟨K, hK⟩ : ∃ K, K = i / 8 := ⟨_, rfl⟩
  obtain ⟨J, hJ⟩ : ∃ J, J = i % 8 := ⟨_, rfl⟩
  rw [← hK] at hc hq hq2
  rw [← hJ] at hr hr2 ho HB
  have hJ8 : J < 8 := by omega
  have hw : IntKind.i64.wrap (7 - (J : Int)) = 7 - (J : Int) := by rw [IntKind.wrap_i64]; omega
  have hn : ((7 : Int) - (J : Int)).toNat = 7 - J := by omega
  have hKl : K < s.length := by omega
  clear h hb hK hJ
  go_enter Tryz.func176, Tryz.ntmps176
  go_wp2
  go_ret
  exact ⟨ret_bool HB.out.symm, (Mod.refl _ _).alloc _⟩
theorem or_mask (b : UInt8) {j : Nat} (hj : j < 8) : bits .or .u8 (b.toNat : Int) (128 / 2 ^ j) = ((setB b j true).toNat : Int) := by
  have key : ∀ n : Nat, n < 256 → ∀ j : Nat, j < 8 → bits .or .u8 (n : Int) (128 / 2 ^ j) = ((setB (UInt8.ofNat n) j true).toNat : Int) := by decide +kernel
  have := key b.toNat b.toNat_lt j hj
  rwa [UInt8.ofNat_toNat] at this
theorem not_mask (b : UInt8) {j : Nat} (hj : j < 8) : bits .andNot .u8 (b.toNat : Int) (128 / 2 ^ j) = ((setB b j false).toNat : Int) := by
  have key : ∀ n : Nat, n < 256 → ∀ j : Nat, j < 8 → bits .andNot .u8 (n : Int) (128 / 2 ^ j) = ((setB (UInt8.ofNat n) j false).toNat : Int) := by decide +kernel
  have := key b.toNat b.toNat_lt j hj
  rwa [UInt8.ofNat_toNat] at this
set_option maxHeartbeats 1000000 in
theorem bset_any (n : Int) (g c : Nat) (s : List UInt8) (i : Nat) (v : Bool) (w : World) (h : ByAt w g s) (hi : i / 8 < s.length) (hl : s.length ≤ 70000) :
    Calls Tryz.prog 101 #[.agg #[.int .i64 n, .slice (some ⟨g, 0, none⟩) s.length c], .int .i64 i, .bool v] w fun e w' => e = .returned (.tuple #[]) ∧ ByAt w' g (setL s i v) ∧ Mod (fun k => k = g) w w' := by
  have hc := h.cell hi
  have hlt := h.lt
  have hfz := h.frz hi
  obtain ⟨b, hb⟩ : ∃ b, b = s[i / 8] := ⟨_, rfl⟩
  have HS := hid (show ∀ v, s.set (i / 8) (setB b (i % 8) v) = setL s i v from fun v => by unfold setL; rw [hb, List.getD_eq_getElem?_getD, List.getElem?_eq_getElem hi]; rfl)
  rw [← hb] at hc
  have hq : ((i : Int)).tdiv 8 = ((i / 8 : Nat) : Int) := by rw [Int.tdiv_eq_ediv_of_nonneg (by omega)]; omega
  have hq2 : (i : Int) / 8 = ((i / 8 : Nat) : Int) := by omega
  have hr : ((i : Int)).tmod 8 = ((i % 8 : Nat) : Int) := by rw [Int.tmod_eq_emod_of_nonneg (by omega)]; omega
  have hr2 : (i : Int) % 8 = ((i % 8 : Nat) : Int) := by omega
  have ho := or_mask b (j := i % 8) (by omega)
  have hn := not_mask b (j := i % 8) (by omega)
  have HB := hid h
  obtain ⟨K, hK⟩ : ∃ K, K = i / 8 := ⟨_, rfl⟩
  obtain ⟨J, hJ⟩ : ∃ J, J = i % 8 := ⟨_, rfl⟩
  rw [← hK] at hc hq hq2 hfz HS
  rw [← hJ] at hr hr2 ho hn HS
  have hJ8 : J < 8 := by omega
  have hKl : K < s.length := by omega
  have HKL := hid hKl
  clear h hb hK hJ
  cases v with
  | true =>
    go_enter Tryz.func101, Tryz.ntmps101
    go_wp2
    go_end0
    exact ⟨rfl, by rw [← HS.out]; exact (HB.out.set HKL.out _).new ((Mod.refl _ _).alloc _), (Mod.set (S := fun k => k = g) (Mod.refl _ _) ⟨g, K, none⟩ _ (.inl rfl)).alloc _⟩
  | false =>
    go_enter Tryz.func101, Tryz.ntmps101
    go_wp2
    go_end0
    exact ⟨rfl, by rw [← HS.out]; exact (HB.out.set HKL.out _).new ((Mod.refl _ _).alloc _), (Mod.set (S := fun k => k = g) (Mod.refl _ _) ⟨g, K, none⟩ _ (.inl rfl)).alloc _⟩
end Go.Proofs.YtbgmkplpolgebaaGreatDoor

namespace Go.Proofs.YtbgmkplpolgebaaGreatDoor
set_option linter.unusedSimpArgs false
set_option linter.unusedVariables false
open Go.RowKit

set_option maxRecDepth 100000 in
set_option maxHeartbeats 1000000 in
theorem bwrong_ok (n : Nat) (s : ByteArray) (w : World) (h : FieldOf n s.data.toList) (hn : n ≤ 4096) :
    Calls Tryz.prog 147 #[.int .i64 n, .string s] w fun e w' => e = .returned (.tuple #[.int .i64 (-1), .int .i64 0]) ∧ New w w' := by
  have hlen : s.data.toList.length = s.size := by rw [Array.length_toList]; rfl
  have hl := h.len
  rw [hlen] at hl
  have hq : ((n : Int) + 7).tdiv 8 = ((s.size : Nat) : Int) := by rw [Int.tdiv_eq_ediv_of_nonneg (by omega)]; omega
  have hq2 : ((n : Int) + 7) / 8 = ((s.size : Nat) : Int) := by omega
  have hw1 : IntKind.i64.wrap ((n : Int) + 7) = (n : Int) + 7 := by rw [IntKind.wrap_i64]; omega
  have hw2 : IntKind.i64.wrap (8 * (s.size : Int)) = 8 * (s.size : Int) := by rw [IntKind.wrap_i64]; omega
  have hcv := fun w => bytes_of w s
  obtain ⟨cap, hcap⟩ : ∃ cap, cap = grownCap w s.size 0 5 := ⟨_, rfl⟩
  have HBY := hid (bytes_lie w s rfl)
  have HBN := hid (bytes_new w s)
  have hcw := hcv w
  rw [← hcap] at hcw
  obtain ⟨W, hW⟩ : ∃ W, W = afterBytes w s := ⟨_, rfl⟩
  rw [← hW] at hcw HBY HBN
  have hWs : W.heap.size = w.heap.size + 1 := by rw [hW]; simp
  have HR := hid h.rest
  have HH := hid (fun (i : Nat) (W' : World) (q : New W W') (hi : i < 8 * s.size) => bhas_any n w.heap.size cap s.data.toList i W' (HBY.out.new q) (by rw [hlen]; omega) (by rw [hlen]; omega))
  rw [hlen] at HH
  have hs5 : s.size ≤ 600 := by omega
  have hns : n ≤ 8 * s.size := by omega
  clear hcv hW hl h hcap
  go_enter Tryz.func147, Tryz.ntmps147
  go_wp2
  have KB := hid (Blk.new W #[.int .i64 n, .slice (some ⟨w.heap.size, 0, none⟩) s.size cap] 120)
  go_loopw [8] (fun x wr => ∃ k : Nat, x = .int .i64 k ∧ n ≤ k ∧ k ≤ 8 * s.size ∧ New (W.alloc (.cells #[.int .i64 n, .slice (some ⟨w.heap.size, 0, none⟩) s.size cap] 120)) wr) (fun x _ => 8 * s.size - (intOf x).toNat)
  case atStart => exact ⟨n, rfl, Nat.le_refl _, hns, Mod.refl _ _⟩
  case round =>
    obtain ⟨k, rfl, hk0, hk, hn'⟩ := hrel
    have HN := hid hn'
    by_cases hlt : k < 8 * s.size
    · have hltI : (k : Int) < 8 * (s.size : Int) := by omega
      have kb : Blk wr (w.heap.size + 1) #[.int .i64 n, .slice (some ⟨w.heap.size, 0, none⟩) s.size cap] 120 := by rw [← hWs]; exact New.blk hn' KB.out
      have c0 := kb.cellv 0 rfl; have c1 := kb.cellv 1 rfl; have cl := kb.lt
      have hx := HH.out k wr (((Mod.refl _ _).alloc _).trans hn') hlt
      rw [HR.out k hk0] at hx
      have HX := hid hx
      clear hx kb hn'
      go_wp2_with fail
      refine HX.out.mono ?_
      rintro e w2 ⟨rfl, n2⟩
      have N2 := hid (HN.out.trans n2)
      clear n2
      go_wp2
      exact ⟨⟨k + 1, by simp, by omega, by omega, N2.out⟩, by simp [intOf]; omega⟩
    · have hltI : ¬ (k : Int) < 8 * (s.size : Int) := by omega
      clear hn'
      go_wp2
      go_ret2
      exact ⟨rfl, HBN.out.trans (((Mod.refl _ _).alloc _).trans HN.out)⟩
set_option maxHeartbeats 1000000 in
theorem bwrong_size (n : Nat) (s : ByteArray) (w : World) (h : s.size ≠ (n + 7) / 8) (hn : n ≤ 4096) (hs : s.size ≤ maxLen) :
    Calls Tryz.prog 147 #[.int .i64 n, .string s] w fun e w' => (∃ x, e = .returned (.tuple #[.int .i64 x, .int .i64 11])) ∧ New w w' := by
  unfold maxLen at hs
  have hq : ((n : Int) + 7).tdiv 8 = (((n + 7) / 8 : Nat) : Int) := by rw [Int.tdiv_eq_ediv_of_nonneg (by omega)]; omega
  have hq2 : ((n : Int) + 7) / 8 = (((n + 7) / 8 : Nat) : Int) := by omega
  have hw1 : IntKind.i64.wrap ((n : Int) + 7) = (n : Int) + 7 := by rw [IntKind.wrap_i64]; omega
  obtain ⟨K, hK⟩ : ∃ K, K = (n + 7) / 8 := ⟨_, rfl⟩
  rw [← hK] at hq hq2 h
  have hb : ((s.size : Int) != (K : Int)) = true := by rw [bne_iff_ne]; omega
  clear hK
  go_enter Tryz.func147, Tryz.ntmps147
  go_wp2
  all_goals
    go_ret2
    exact ⟨⟨_, rfl⟩, Mod.refl _ _⟩
/-- What a call stops with. -/
def toldB (k : Int) : List PanicEntry := [{ v := .iface 172 (.int .i64 k), recovered := false }]
theorem bfail_raise (k : Int) (w : World) : Calls Tryz.prog 100 #[.bool true, .int .i64 k] w fun e w' => e = .panicked (toldB k) ∧ w = w' := by
  go_enter Tryz.func100, Tryz.ntmps100
  go_wp2
  exact ⟨rfl, rfl, rfl⟩
theorem bfail_pass (k : Int) (w : World) : Calls Tryz.prog 100 #[.bool false, .int .i64 k] w fun e w' => e = .returned (.tuple #[]) ∧ w = w' := by
  go_enter Tryz.func100, Tryz.ntmps100
  go_wp2
  go_end0
  exact ⟨rfl, rfl⟩
theorem bcaught_idle (p : Addr) (w : World) :
    CallsD Tryz.prog 98 #[.pointer (some p)] .returning w fun e u' w' => e = .returned (.tuple #[]) ∧ u' = .returning ∧ w' = w := by
  refine callsD_of_wpS Tryz.func98 rfl fun c₀ cs hu => ?_
  apply wpS_seq
  apply wpS_region
  simp [wpOpsS, go_sem, recoverD, hu, Tryz.ntmps98, Exit.thenS]
  apply wpS_seq
  refine wpS_of_wp ?_
  go_wp2
  refine wpS_cond (t := false) (by simp [Act.eval, Array.replicate]) ?_
  simp only [Bool.false_eq_true, if_false]
  refine wpS_of_wp (wp_skip ?_)
  cases c₀
  simp_all [bodyPostS, results, Tryz.results98]
set_option maxRecDepth 100000 in
set_option maxHeartbeats 1000000 in
theorem bcaught_told (q : Nat) (k : Int) (w : World) (hq : Blk w q #[.int .i64 0] 28) :
    CallsD Tryz.prog 98 #[.pointer (some ⟨q, 0, none⟩)] (.panicking (toldB k)) w fun e u' w' =>
      e = .returned (.tuple #[]) ∧ u' = .panicking [{ v := .iface 172 (.int .i64 k), recovered := true }] ∧ Blk w' q #[.int .i64 k] 28 ∧ Mod (fun j => j = q) w w' := by
  obtain ⟨q1, q2, q3⟩ := hq.one
  have HQ := hid hq
  clear hq
  unfold toldB
  have hta : ∀ (x : Int) (w : World), (Instr.typeAssert (.iface 172 (.int .i64 x)) 20 172 true).run Tryz.prog w = .ok (.tuple #[.int .i64 x, .bool true]) w := fun _ _ => by simp [Instr.typeAssert, run_underlying Tryz.underlying172, Result.andThen]
  refine callsD_of_wpS Tryz.func98 rfl fun c₀ cs hu => ?_
  apply wpS_seq
  apply wpS_region
  simp [wpOpsS, go_sem, recoverD, hu, Tryz.ntmps98, Exit.thenS, show Array.replicate 18 undef = #[undef, undef, undef, undef, undef, undef, undef, undef, undef, undef, undef, undef, undef, undef, undef, undef, undef, undef] from rfl]
  apply wpS_seq
  refine wpS_of_wp ?_
  go_wp2
  refine wpS_cond (t := true) (by simp [Act.eval, Array.replicate]) ?_
  simp only [if_true]
  refine wpS_of_wp ?_
  go_wp2
  refine ⟨rfl, .panicking [{ v := .iface 172 (.int .i64 k), recovered := true }], ?_, .tuple #[], by simp [results, Tryz.results98], rfl, rfl, ?_, ?_⟩
  · first | rfl | (simp; done) | (cases c₀; simp_all)
  · apply Blk.row
    · repeat (first | with_reducible exact HQ.out | (with_reducible apply Blk.newAt; (simp; done)) | with_reducible apply Blk.alloc | with_reducible apply Blk.drew | with_reducible apply Blk.drewN | with_reducible apply Blk.set | (with_reducible apply Blk.other; · first | (simp; done) | (simp; omega) | omega) | (with_reducible apply Blk.putObj; · first | (simp; done) | (simp; omega) | omega))
    · rfl
  · repeat (first | with_reducible exact Mod.refl _ _ | with_reducible refine Mod.alloc ?_ _ | with_reducible refine Mod.drew ?_ | with_reducible refine Mod.drewN ?_ _ | (with_reducible refine Mod.set ?_ _ _ (by first | exact .inl rfl | (right; omega) | (right; simp; done) | (right; simp; omega) | (left; omega) | (left; simp; done) | (left; simp; omega))) | (with_reducible refine Mod.putObj ?_ _ _ (by first | exact .inl rfl | (right; omega) | (right; simp; done) | (right; simp; omega) | (left; omega) | (left; simp; done) | (left; simp; omega))))
end Go.Proofs.YtbgmkplpolgebaaGreatDoor

namespace Go.Proofs.YtbgmkplpolgebaaGreatDoor
set_option linter.unusedSimpArgs false
set_option linter.unusedVariables false
open Go.RowKit

theorem info_field : (Tryz.prog.info? 120).map (fun i => (i.zero, i.size, i.bytes)) = some (some (.agg #[.int .i64 0, .slice none 0 0]), 2, 32) := by kernel_rfl
theorem two_new (w : World) (x y : Value) (t : TypeId) {b : Nat} (hb : b = w.heap.size) : ∀ (j : Nat) (u : Value), [x, y][j]? = some u → (w.alloc (.cells #[x, y] t)).cell? ((⟨b, 0, none⟩ : Addr).add j) = some u := by
  intro j u hj
  have hadd : ∀ k, (⟨b, 0, none⟩ : Addr).add k = ⟨b, 0 + k, none⟩ := fun k => by unfold Addr.add; split <;> simp_all
  rw [hadd]
  have hB := Blk.newAt (cs := #[x, y]) (t := t) hb
  match j, hj with
  | 0, hj => simp at hj; subst hj; exact hB.cellv 0 rfl
  | 1, hj => simp at hj; subst hj; exact hB.cellv 1 rfl
/-- What open answers for one field: its list, and its bytes. -/
def Opened (w : World) (base : Nat) (v : Value) (n : Nat) (s : ByteArray) : Prop :=
  ∃ (G cap B cb : Nat), v = .slice (some ⟨G, 0, none⟩) 1 cap ∧ 1 ≤ cap ∧ cap ≤ maxLen ∧ G < w.heap.size ∧ w.cell? ⟨G, 0, none⟩ = some (.int .i64 n) ∧ w.cell? ⟨G, 1, none⟩ = some (.slice (some ⟨B, 0, none⟩) s.size cb) ∧ ByAt w B s.data.toList ∧ base ≤ B
theorem Opened.new {w w' : World} {base : Nat} {v : Value} {n : Nat} {s : ByteArray} (h : Opened w base v n s) (hn : New w w') : Opened w' base v n s := by
  obtain ⟨G, cap, B, cb, h1, h2, h3, h4, h5, h6, h7, h8⟩ := h
  exact ⟨G, cap, B, cb, h1, h2, h3, Nat.lt_of_lt_of_le h4 hn.size, New.cellv hn h5, New.cellv hn h6, h7.new hn, h8⟩
set_option maxRecDepth 100000 in
set_option maxHeartbeats 2000000 in
theorem bopen_one (n : Nat) (s : ByteArray) (a c : Nat) (w : World) (h : FieldOf n s.data.toList) (hn : n ≤ 4096) (ha : w.cell? ⟨a, 0, none⟩ = some (.string s)) (hc : 1 ≤ c) (hc2 : c ≤ maxLen) :
    Calls Tryz.prog 103 #[.int .i64 n, .slice (some ⟨a, 0, none⟩) 1 c] w fun e w' => ∃ v, e = .returned v ∧ Opened w' w.heap.size v n s ∧ New w w' := by
  unfold maxLen at hc2
  have HW := hid (fun W => bwrong_ok n s W h hn)
  have hlen : s.data.toList.length = s.size := by rw [Array.length_toList]; rfl
  have hl := h.len
  rw [hlen] at hl
  have hss : s.size ≤ 600 := by omega
  have hal := World.block_lt_of_cell? _ _ ha
  have HA := hid ha
  obtain ⟨i0, hi, hz0, hz1, hz2⟩ := info_parts info_field
  have hd1 : decide ((n : Int) < 0) = false := decide_eq_false (by omega)
  have hd2 : decide (4096 < (n : Int)) = false := decide_eq_false (by omega)
  clear h hlen hl ha
  go_enter Tryz.func103, Tryz.ntmps103
  go_wp2_with (first | (go_at_call 100; refine (bfail_pass _ _).mono ?_; rintro e w1 ⟨rfl, rfl⟩) | fail)
  go_loopw [5, 19] (fun v i wr => ∃ k : Nat, i = .int .i64 k ∧ ((k = 0 ∧ v = .slice none 0 0 ∧ New w wr) ∨ (k = 1 ∧ Opened wr w.heap.size v n s ∧ New w wr))) (fun _ i _ => 1 - (intOf i).toNat)
  case atStart => exact ⟨0, rfl, .inl ⟨rfl, rfl, Mod.refl _ _⟩⟩
  case round =>
    obtain ⟨k, rfl, ⟨rfl, rfl, hn'⟩ | ⟨rfl, ho, hn'⟩⟩ := hrel
    · have HN := hid hn'
      have ca := New.cellv hn' HA.out
      have cl : a < wr.heap.size := World.block_lt_of_cell? _ _ ca
      clear hn'
      go_wp2_with fail
      refine (HW.out _).mono ?_
      rintro e w1 ⟨rfl, n1⟩
      have N1 := hid (HN.out.trans n1)
      clear n1
      have hcv := bytes_of w1 s
      obtain ⟨cap, hcap⟩ : ∃ cap, cap = grownCap w1 s.size 0 5 := ⟨_, rfl⟩
      rw [← hcap] at hcv
      have HBY := hid (bytes_lie w1 s rfl)
      have HBN := hid (N1.out.trans (bytes_new w1 s))
      obtain ⟨W, hW⟩ : ∃ W, W = afterBytes w1 s := ⟨_, rfl⟩
      rw [← hW] at hcv HBY HBN
      have hWs : W.heap.size = w1.heap.size + 1 := by rw [hW]; simp
      clear hW hcap
      go_wp2_with (first | (go_at_call 100; refine (bfail_pass _ _).mono ?_; rintro e w1 ⟨rfl, rfl⟩) | (at_builtin; refine wpList_append_own_at _ rfl _ _ 126 rfl w.heap.size 120 i0 _ 2 32 Tryz.underlying126 hi hz0 hz1 hz2 rfl (by decide) (.slice none 0 0) 0 [] rfl ?ow ⟨w1.heap.size + 1, 0, none⟩ 1 1 [.int .i64 n, .slice (some ⟨w1.heap.size, 0, none⟩) s.size cap] rfl rfl ?hn ?h1 ?h63 ?hby ?hba ?_) | fail)
      case ow => exact World.ownsRow_nil _ _ _ _
      case hn => exact two_new W _ _ _ hWs.symm
      case h1 => intro u hu; simp at hu; rcases hu with rfl | rfl <;> rfl
      case h63 => unfold maxLen; omega
      case hby => omega
      case hba => have := HBN.out.size; simp; omega
      intro o4 w4 r4 g4 hne _
      have HN4 : Hid (New w w4) := hid (newGrown (HBN.out.alloc _) g4 (fun j hj => by cases hj))
      have HOP : Hid (Opened w4 w.heap.size o4 n s) := hid (by
        rcases r4.2 with ⟨q, -⟩ | ⟨G, cap', cur, rfl, hbg, hg, hnc, hcm, hcs, htake⟩
        · exact absurd q hne
        · have hb : Blk w4 G cur 120 := hg
          have hc' : ∀ (j : Nat) (u : Value), j < 2 → [Value.int .i64 n, Value.slice (some ⟨w1.heap.size, 0, none⟩) s.size cap][j]? = some u → w4.cell? ⟨G, j, none⟩ = some u := by
            intro j u hj hu
            have h1 := World.ownsRow.cells (g := G) r4 rfl j u hu
            have hadd : ∀ k, (⟨G, 0, none⟩ : Addr).add k = ⟨G, 0 + k, none⟩ := fun k => by unfold Addr.add; split <;> simp_all
            rw [hadd, Nat.zero_add] at h1
            exact h1
          refine ⟨G, cap', w1.heap.size, cap, rfl, hnc, hcm, hb.lt, hc' 0 _ (by omega) rfl, hc' 1 _ (by omega) rfl, ?_, N1.out.size⟩
          have hby := (HBY.out.new ((Mod.refl _ _).alloc (.cells #[.int .i64 n, .slice (some ⟨w1.heap.size, 0, none⟩) s.size cap] 120)))
          exact hby.of_heap (g4.block _ hby.lt (fun q => by cases q)))
      clear r4 g4
      go_wp2
      exact ⟨⟨1, by simp, .inr ⟨rfl, HOP.out, HN4.out⟩⟩, by simp [intOf]⟩
    · have HO := hid ho; have HN := hid hn'
      clear ho hn'
      go_wp2
      go_ret
      exact ⟨_, rfl, HO.out, HN.out⟩
end Go.Proofs.YtbgmkplpolgebaaGreatDoor
