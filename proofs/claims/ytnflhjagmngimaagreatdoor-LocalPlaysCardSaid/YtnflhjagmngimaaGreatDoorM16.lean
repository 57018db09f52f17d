/-
  Several texts in one, in their build order. The digest of package hash: the walks of begun, take, each, eight. Conditions: the four numbers lie as told. The digest of package hash: the walks of each, begun, New. Conditions: the four numbers lie as told. The digest of package hash: the walks of eight, ended, Sum. Conditions: the four numbers lie as told.
-/
import Derived.Test.YtnflhjagmngimaaGreatDoorM5
import Derived.Test.YtnflhjagmngimaaGreatDoorM9
import Derived.Test.YtnflhjagmngimaaGreatDoorM7
namespace Go.Proofs.YtnflhjagmngimaaGreatDoor
set_option linter.unusedSimpArgs false
set_option linter.unusedVariables false
open Go.RowKit Go.Shelf

def xmulT (h x : Int) : Int := IntKind.u64.wrap (bits .xor .u64 h (IntKind.u64.wrap x) * 1099511628211)
/-- One of the four numbers behind a byte. -/
def laneT (h : Int) (x : UInt8) : Int := bits .xor .u64 (xmulT h x.toNat) (xmulT h x.toNat / 536870912)
theorem arr_at0 (a b c d : Int) (w : World) : (Instr.index 127 (.agg #[.int .u64 a, .int .u64 b, .int .u64 c, .int .u64 d]) (.int .i64 0)).run Tryz.prog w = .ok (.int .u64 a) w := by kernel_rfl
theorem arr_at1 (a b c d : Int) (w : World) : (Instr.index 127 (.agg #[.int .u64 a, .int .u64 b, .int .u64 c, .int .u64 d]) (.int .i64 1)).run Tryz.prog w = .ok (.int .u64 b) w := by kernel_rfl
theorem arr_at2 (a b c d : Int) (w : World) : (Instr.index 127 (.agg #[.int .u64 a, .int .u64 b, .int .u64 c, .int .u64 d]) (.int .i64 2)).run Tryz.prog w = .ok (.int .u64 c) w := by kernel_rfl
theorem arr_at3 (a b c d : Int) (w : World) : (Instr.index 127 (.agg #[.int .u64 a, .int .u64 b, .int .u64 c, .int .u64 d]) (.int .i64 3)).run Tryz.prog w = .ok (.int .u64 d) w := by kernel_rfl
set_option maxRecDepth 100000 in
set_option maxHeartbeats 4000000 in
theorem htake_any (B : Nat) (a b c d n : Int) (x : UInt8) (w : World) (h : Blk w B #[.int .u64 a, .int .u64 b, .int .u64 c, .int .u64 d, .int .i64 n] 132) :
    Calls Tryz.prog 90 #[.pointer (some ⟨B, 0, none⟩), .int .u8 x.toNat] w fun e w' => e = .returned (.tuple #[]) ∧ Blk w' B #[.int .u64 (laneT a x), .int .u64 (laneT b x), .int .u64 (laneT c x), .int .u64 (laneT d x), .int .i64 n] 132 ∧ Mod (· = B) w w' := by
  have HB := hid h
  have c0 := h.cellv 0 rfl; have c1 := h.cellv 1 rfl; have c2 := h.cellv 2 rfl; have c3 := h.cellv 3 rfl; have cl := h.lt
  have f0 := h.frz 0; have f1 := h.frz 1; have f2 := h.frz 2; have f3 := h.frz 3
  have i0 := arr_at0 a b c d; have i1 := arr_at1 a b c d; have i2 := arr_at2 a b c d; have i3 := arr_at3 a b c d
  clear h
  go_enter Tryz.func90, Tryz.ntmps90
  go_wp2_with fail
  refine wp_loop_rounds 5 ?_
  rw [rounds_succ]
  go_wp2_with fail
  rw [rounds_succ]
  go_wp2_with fail
  rw [rounds_succ]
  go_wp2_with fail
  rw [rounds_succ]
  go_wp2_with fail
  rw [rounds_succ]
  go_wp2_with fail
  go_end0
  refine ⟨rfl, ?_, ?_⟩
  · exact ((((HB.out.set 0 _).set 1 _).set 2 _).set 3 _).row (by simp [laneT, xmulT])
  · refine Mod.set (S := fun k => k = B) ?_ ⟨B, 3, none⟩ _ (.inl rfl)
    refine Mod.set (S := fun k => k = B) ?_ ⟨B, 2, none⟩ _ (.inl rfl)
    refine Mod.set (S := fun k => k = B) ?_ ⟨B, 1, none⟩ _ (.inl rfl)
    exact Mod.set (S := fun k => k = B) (Mod.refl _ _) ⟨B, 0, none⟩ _ (.inl rfl)
end Go.Proofs.YtnflhjagmngimaaGreatDoor

namespace Go.Proofs.YtnflhjagmngimaaGreatDoor
set_option linter.unusedSimpArgs false
set_option linter.unusedVariables false
open Go.RowKit Go.Shelf

def laneF (h : Int) (l : List UInt8) : Int := l.foldl laneT h
theorem laneF_next {h : Int} {l : List UInt8} {k : Nat} (hk : k < l.length) : laneF h (l.take (k + 1)) = laneT (laneF h (l.take k)) l[k] := by
  unfold laneF
  rw [List.take_succ_eq_append_getElem hk, List.foldl_append]
  rfl
def hashRow (a b c d n : Int) : Array Value := #[.int .u64 a, .int .u64 b, .int .u64 c, .int .u64 d, .int .i64 n]
theorem byteAtT (t : ByteArray) {k : Nat} (h : k < t.size) : t.data.toList[k]'(by rw [Array.length_toList]; exact h) = t[k] := rfl
set_option maxRecDepth 100000 in
set_option maxHeartbeats 4000000 in
theorem each_any (B : Nat) (a b c d n : Int) (s : ByteArray) (w : World) (h : Blk w B (hashRow a b c d n) 132) (hs : s.size ≤ 4000000000) :
    Calls Tryz.prog 89 #[.string s, .func (.func 90) #[.pointer (some ⟨B, 0, none⟩)] #[]] w fun e w' => e = .returned (.tuple #[]) ∧ Blk w' B (hashRow (laneF a s.data.toList) (laneF b s.data.toList) (laneF c s.data.toList) (laneF d s.data.toList) n) 132 ∧ Mod (· = B) w w' := by
  have HB := hid h
  have hlen : s.data.toList.length = s.size := by rw [Array.length_toList]; rfl
  clear h
  go_enter Tryz.func89, Tryz.ntmps89
  go_wp2_with fail
  go_loopw [7] (fun i wr => ∃ (k : Nat), i = .int .i64 k ∧ k ≤ s.size ∧ Blk wr B (hashRow (laneF a (s.data.toList.take k)) (laneF b (s.data.toList.take k)) (laneF c (s.data.toList.take k)) (laneF d (s.data.toList.take k)) n) 132 ∧ Mod (· = B) w wr) (fun i _ => s.size - (intOf i).toNat)
  case atStart => exact ⟨0, rfl, by omega, HB.out, Mod.refl _ _⟩
  case round =>
    obtain ⟨k, rfl, hk, hb, hm⟩ := hrel
    have HM := hid hm; have HB1 := hid hb
    clear hm hb
    by_cases hlt : k < s.size
    · have hltI : (k : Int) < (s.size : Int) := by omega
      have HN := hid (fun h => laneF_next (h := h) (l := s.data.toList) (k := k) (by omega))
      rw [byteAtT s hlt] at HN
      have HT := hid (htake_any B _ _ _ _ n s[k] wr HB1.out)
      go_wp2_with (go_at_call 90; refine HT.out.mono ?_; rintro e w1 ⟨rfl, hb1, hm1⟩)
      go_roundw
      case rel => exact ⟨k + 1, by simp, by omega, by rw [HN.out, HN.out, HN.out, HN.out]; exact hb1, HM.out.trans hm1⟩
      case measure => simp [intOf]; omega
    · have hkl : s.data.toList.take k = s.data.toList := List.take_of_length_le (by omega)
      rw [hkl] at HB1
      clear hkl
      go_wp2_with fail
      go_end0
      exact ⟨rfl, HB1.out, HM.out⟩
/-- With what each of the four numbers begins. -/
def laneB (k : Int) : Int := IntKind.u64.wrap (14695981039346656037 + IntKind.u64.wrap (k * 11400714819323198485))
theorem laneB0 : laneB 0 = 14695981039346656037 := by decide +kernel
theorem laneB1 : laneB 1 = IntKind.u64.wrap 26096695858669854522 := by decide +kernel
theorem laneB2 : laneB 2 = IntKind.u64.wrap (14695981039346656037 + IntKind.u64.wrap 22801429638646396970) := by decide +kernel
theorem laneB3 : laneB 3 = IntKind.u64.wrap (14695981039346656037 + IntKind.u64.wrap 34202144457969595455) := by decide +kernel
set_option maxRecDepth 100000 in
set_option maxHeartbeats 4000000 in
theorem begun_any (w : World) :
    Calls Tryz.prog 88 #[] w fun e w' => e = .returned (.agg #[.int .u64 (laneB 0), .int .u64 (laneB 1), .int .u64 (laneB 2), .int .u64 (laneB 3)]) ∧ New w w' := by
  rw [laneB0, laneB1, laneB2, laneB3]
  go_enter Tryz.func88, Tryz.ntmps88
  go_wp2_with fail
  refine wp_loop_rounds 5 ?_
  rw [rounds_succ]
  go_wp2_with fail
  rw [rounds_succ]
  go_wp2_with fail
  rw [rounds_succ]
  go_wp2_with fail
  rw [rounds_succ]
  go_wp2_with fail
  rw [rounds_succ]
  go_wp2_with fail
  exact bodyPost_ret (results_cell_row rfl _ _ w.heap.size _ _ (0, 0) _ rfl ((Blk.new w _ 129).alloc _) Tryz.underlying129 rfl (by kernel_rfl)) rfl ⟨rfl, ((Mod.refl _ _).alloc _).alloc _⟩
set_option maxRecDepth 100000 in
set_option maxHeartbeats 4000000 in
theorem hNew_any (w : World) :
    Calls Tryz.prog 63 #[] w fun e w' => ∃ B, e = .returned (.pointer (some ⟨B, 0, none⟩)) ∧ Blk w' B (hashRow (laneB 0) (laneB 1) (laneB 2) (laneB 3) 0) 132 ∧ New w w' ∧ w.heap.size ≤ B := by
  have HB := hid (begun_any w)
  obtain ⟨x0, h0⟩ : ∃ x, x = laneB 0 := ⟨_, rfl⟩
  obtain ⟨x1, h1⟩ : ∃ x, x = laneB 1 := ⟨_, rfl⟩
  obtain ⟨x2, h2⟩ : ∃ x, x = laneB 2 := ⟨_, rfl⟩
  obtain ⟨x3, h3⟩ : ∃ x, x = laneB 3 := ⟨_, rfl⟩
  rw [← h0, ← h1, ← h2, ← h3] at HB ⊢
  clear h0 h1 h2 h3
  go_enter Tryz.func63, Tryz.ntmps63
  go_wp2_with fail
  refine HB.out.mono ?_
  rintro e w1 ⟨rfl, n1⟩
  have N1 := hid n1
  clear n1
  go_wp2_with fail
  go_ret
  exact ⟨w1.heap.size, rfl, Blk.new w1 _ _, N1.out.alloc _, N1.out.size⟩
set_option maxRecDepth 100000 in
set_option maxHeartbeats 4000000 in
theorem hAdd_any (B : Nat) (a b c d n : Int) (s : ByteArray) (w : World) (h : Blk w B (hashRow a b c d n) 132) (hs : s.size ≤ 4000000000) (hn : 0 ≤ n ∧ n ≤ 1000000000000) :
    Calls Tryz.prog 64 #[.pointer (some ⟨B, 0, none⟩), .string s] w fun e w' => e = .returned (.tuple #[]) ∧ Blk w' B (hashRow (laneF a s.data.toList) (laneF b s.data.toList) (laneF c s.data.toList) (laneF d s.data.toList) (n + s.size)) 132 ∧ Mod (· = B) w w' := by
  have HE := hid (each_any B a b c d n s w h hs)
  have hw : IntKind.i64.wrap (n + s.size) = n + s.size := by rw [IntKind.wrap_i64]; omega
  have hmf : ∀ (fn : Fn) (first cap : Array Value) (w : World), (Instr.makeFunc fn first cap).run Tryz.prog w = .ok (.func fn first cap) w := fun _ _ _ _ => rfl
  have hl := h.lt
  clear h
  go_enter Tryz.func64, Tryz.ntmps64
  go_wp2_with fail
  refine HE.out.mono ?_
  rintro e w1 ⟨rfl, hb1, hm1⟩
  have HB1 := hid hb1; have HM1 := hid hm1
  have c4 : w1.cell? ⟨B, 4, none⟩ = some (.int .i64 n) := hb1.cellv 4 rfl
  have cl := hb1.lt; have f4 := hb1.frz 4
  clear hb1 hm1
  go_wp2_with fail
  go_end0
  refine ⟨rfl, (HB1.out.set 4 _).row (by simp [hashRow]), ?_⟩
  exact Mod.set (S := fun k => k = B) HM1.out ⟨B, 4, none⟩ _ (.inl rfl)
end Go.Proofs.YtnflhjagmngimaaGreatDoor

namespace Go.Proofs.YtnflhjagmngimaaGreatDoor
set_option linter.unusedSimpArgs false
set_option linter.unusedVariables false
open Go.RowKit Go.Shelf

/-- A byte of a number: the one that stands k bits from its end. -/
def byteN (n : Int) (k : Nat) : UInt8 := UInt8.ofNat ((n / 2 ^ k) % 256).toNat
/-- A number in eight bytes, the greatest first. -/
def eightL (n : Int) : List UInt8 := (List.range 8).map fun i => byteN n (56 - 8 * i)
theorem eight_len (n : Int) : (eightL n).length = 8 := by simp [eightL]
theorem byteN_val (n : Int) (k : Nat) : ((byteN n k).toNat : Int) = (n / 2 ^ k) % 256 := by
  unfold byteN
  rw [UInt8.toNat_ofNat']
  have h1 : 0 ≤ (n / 2 ^ k) % 256 := Int.emod_nonneg _ (by decide)
  have h2 : (n / 2 ^ k) % 256 < 256 := Int.emod_lt_of_pos _ (by decide)
  omega
theorem add_zeroY (g k : Nat) : (⟨g, 0, none⟩ : Addr).add k = ⟨g, 0 + k, none⟩ := by unfold Addr.add; split <;> simp_all
set_option maxRecDepth 100000 in
set_option maxHeartbeats 4000000 in
theorem eight_any (n : Int) (w : World) : Calls Tryz.prog 118 #[.int .u64 n] w fun e w' => ∃ v, e = .returned v ∧ OwnY w' w.heap.size v (eightL n) ∧ New w w' := by
  obtain ⟨i0, hi, hz0, hz1, hz2⟩ := info_parts info_byte
  go_enter Tryz.func118, Tryz.ntmps118
  go_wp2_with fail
  go_loopw [3, 4] (fun v i wr => ∃ (k : Nat), i = .int .i64 (56 - 8 * (k : Int)) ∧ k ≤ 8 ∧ OwnY wr w.heap.size v ((eightL n).take k) ∧ New w wr) (fun _ i _ => (intOf i + 8).toNat)
  case atStart => exact ⟨0, rfl, by omega, OwnY.nil _ _, Mod.refl _ _⟩
  case round =>
    obtain ⟨k, rfl, hk, ho, hn⟩ := hrel
    have HO := hid ho; have HN := hid hn
    have hsz := hn.size
    clear hn
    by_cases hlt : k < 8
    · have h0 : decide (56 - 8 * (k : Int) ≥ 0) = true := decide_eq_true (by omega)
      have h1 : (0 : Int) ≤ 56 - 8 * (k : Int) := by omega
      obtain ⟨b, hb⟩ : ∃ b : UInt8, b = byteN n (56 - 8 * k) := ⟨_, rfl⟩
      have hbv : n / 2 ^ (56 - 8 * k) % 256 = (b.toNat : Int) := by rw [hb, byteN_val]
      have hbw : IntKind.u8.wrap (n / 2 ^ (56 - 8 * k)) = (b.toNat : Int) := by rw [← hbv]; simp [IntKind.wrap, IntKind.bits, IntKind.signed]
      have HNX := hid (show (eightL n).take (k + 1) = (eightL n).take k ++ [b] by
        rw [List.take_succ_eq_append_getElem (by rw [eight_len]; omega)]
        congr 1
        simp [eightL, hb])
      have hlk : ((eightL n).take k).length = k := by rw [List.length_take, eight_len]; omega
      obtain ⟨L, hL⟩ : ∃ L, L = (eightL n).take k := ⟨_, rfl⟩
      rw [← hL] at HO HNX hlk
      clear ho hL hb
      go_wp2_with (at_builtin; refine wpList_append_own_at _ rfl _ _ 100 rfl w.heap.size 5 i0 _ 1 1 Tryz.underlying100 hi hz0 hz1 hz2 rfl (by decide) _ L.length (byV L) rfl ?ow ⟨wr.heap.size, 0, none⟩ 1 1 [.int .u8 (b.toNat : Int)] rfl rfl ?hn ?h1 ?h63 ?hby ?hba ?_)
      case ow => exact HO.out.new ((Mod.refl _ _).alloc _)
      case hn =>
        intro j u hj
        rw [add_zeroY]
        match j, hj with
        | 0, hj => simp at hj; subst hj; exact (Blk.newAt (by simp)).cellv 0 rfl
      case h1 => intro u hu; simp at hu; subst hu; rfl
      case h63 => unfold maxLen; omega
      case hby => omega
      case hba => simp; omega
      intro o' w' r' g' _ _
      have O' := hid (ownY_of (l := L) [b] (by rw [hlk]; exact r'))
      have N' := hid (new_grownY (HO.out.new ((Mod.refl _ _).alloc _)) (Nat.le_refl _) (HN.out.alloc _) g')
      clear r' g'
      go_wp2_with fail
      go_roundw
      case rel => exact ⟨k + 1, by simp; omega, by omega, by rw [HNX.out]; exact O'.out, N'.out⟩
      case measure => simp [intOf]; omega
    · have h0 : decide (56 - 8 * (k : Int) ≥ 0) = false := decide_eq_false (by omega)
      have h1 : ¬ (0 : Int) ≤ 56 - 8 * (k : Int) := by omega
      have hkl : (eightL n).take k = eightL n := List.take_of_length_le (by rw [eight_len]; omega)
      rw [hkl] at HO
      clear ho hkl
      go_wp2_with fail
      go_ret
      exact ⟨_, rfl, HO.out, HN.out⟩
def nth4 (a b c d : Int) : Nat → Int
  | 0 => a
  | 1 => b
  | 2 => c
  | _ => d
theorem arr_at (a b c d : Int) (w : World) {k : Nat} (hk : k < 4) : (Instr.index 127 (.agg #[.int .u64 a, .int .u64 b, .int .u64 c, .int .u64 d]) (.int .i64 k)).run Tryz.prog w = .ok (.int .u64 (nth4 a b c d k)) w := by
  match k, hk with
  | 0, _ => exact arr_at0 a b c d w
  | 1, _ => exact arr_at1 a b c d w
  | 2, _ => exact arr_at2 a b c d w
  | 3, _ => exact arr_at3 a b c d w
/-- The number of which eight bytes of the digest are written. -/
def laneE (h n : Int) : Int := IntKind.u64.wrap (bits .xor .u64 (xmulT h n) (xmulT h n / 4294967296) * 1099511628211)
def dgL (a b c d n : Int) : List UInt8 := (List.range 4).flatMap fun k => eightL (laneE (nth4 a b c d k) n)
theorem dig_len (a b c d n : Int) : (dgL a b c d n).length = 32 := by simp [dgL, List.range, List.range.loop, eight_len]
def digP (a b c d n : Int) (k : Nat) : List UInt8 := (List.range k).flatMap fun k => eightL (laneE (nth4 a b c d k) n)
theorem digP_next (a b c d n : Int) (k : Nat) : digP a b c d n (k + 1) = digP a b c d n k ++ eightL (laneE (nth4 a b c d k) n) := by
  unfold digP
  rw [List.range_succ, List.flatMap_append]
  simp
theorem digP_len (a b c d n : Int) : ∀ k, (digP a b c d n k).length = 8 * k
  | 0 => rfl
  | k + 1 => by rw [digP_next, List.length_append, digP_len a b c d n k, eight_len]; omega
set_option maxRecDepth 100000 in
set_option maxHeartbeats 4000000 in
theorem ended_any (a b c d n : Int) (w : World) : Calls Tryz.prog 91 #[.agg #[.int .u64 a, .int .u64 b, .int .u64 c, .int .u64 d], .int .i64 n] w fun e w' => e = .returned (.string (mkB (dgL a b c d n))) ∧ New w w' := by
  obtain ⟨i0, hi, hz0, hz1, hz2⟩ := info_parts info_byte
  have HE := hid eight_any
  go_enter Tryz.func91, Tryz.ntmps91
  go_wp2_with fail
  obtain ⟨w0, hw0⟩ : ∃ w0, w0 = w.alloc (.cells #[.int .u64 a, .int .u64 b, .int .u64 c, .int .u64 d] 129) := ⟨_, rfl⟩
  have N0 : Hid (New w w0) := hid (by rw [hw0]; exact (Mod.refl _ _).alloc _)
  rw [← hw0]
  clear hw0
  go_loopw [5, 10] (fun v i wr => ∃ (k : Nat), i = .int .i64 k ∧ k ≤ 4 ∧ OwnY wr w.heap.size v (digP a b c d n k) ∧ New w wr) (fun _ i _ => 4 - (intOf i).toNat)
  case atStart => exact ⟨0, rfl, by omega, OwnY.nil _ _, N0.out⟩
  case round =>
    obtain ⟨k, rfl, hk, ho, hn⟩ := hrel
    have HO := hid ho; have HN := hid hn
    by_cases hlt : k < 4
    · have hix := fun w => arr_at a b c d w hlt
      obtain ⟨h, hh⟩ : ∃ h, h = nth4 a b c d k := ⟨_, rfl⟩
      have HNX := hid (digP_next a b c d n k)
      have hlk := digP_len a b c d n k
      rw [← hh] at hix HNX
      obtain ⟨L, hL⟩ : ∃ L, L = digP a b c d n k := ⟨_, rfl⟩
      rw [← hL] at HO HNX hlk
      clear ho hn hh hL
      obtain ⟨X, hX⟩ : ∃ X, X = laneE h n := ⟨_, rfl⟩
      have HX := hid hX
      rw [← hX] at HNX
      clear hX
      go_wp2_with fail
      refine (show Calls Tryz.prog 118 #[.int .u64 (laneE h n)] wr _ from (HE.out (laneE h n) wr).mono ?_)
      rw [← HX.out]
      rintro e w2 ⟨v, rfl, ho2, n2⟩
      have N2 := hid (HN.out.trans n2)
      have HO2 := hid (HO.out.new n2)
      have h8 := eight_len X
      obtain ⟨E, hE⟩ : ∃ E, E = eightL X := ⟨_, rfl⟩
      rw [← hE] at ho2 h8 HNX
      rcases ho2.form with ⟨-, q⟩ | ⟨g, cap, rfl, -, hgl, hlc, hcm, hcc, -⟩
      · rw [q] at h8; simp at h8
      have HCC := hid hcc; have H8 := hid h8; have HLK := hid hlk
      have hz2' := N2.out.size
      clear ho2 n2 hE hcc h8 hlk
      go_wp2_with (at_builtin; refine wpList_append_own_at _ rfl _ _ 100 rfl w.heap.size 5 i0 _ 1 1 Tryz.underlying100 hi hz0 hz1 hz2 rfl (by decide) _ L.length (byV L) rfl ?ow ⟨g, 0, none⟩ E.length cap (byV E) rfl ?hl ?hn ?h1 ?h63 ?hby ?hba ?_)
      case ow => exact HO2.out
      case hl => simp [byV]
      case hn =>
        intro j u hj
        rw [add_zeroY]
        unfold byV at hj
        rw [List.getElem?_map] at hj
        by_cases hjl : j < E.length
        · rw [List.getElem?_eq_getElem hjl, Option.map_some] at hj
          injection hj with hj
          rw [Nat.zero_add, HCC.out j hjl, hj]
        · rw [List.getElem?_eq_none (by omega)] at hj
          cases hj
      case h1 =>
        intro u hu
        unfold byV at hu
        obtain ⟨b, -, rfl⟩ := List.mem_map.1 hu
        rfl
      case h63 => have := H8.out; have := HLK.out; unfold maxLen; omega
      case hby => have := H8.out; have := HLK.out; omega
      case hba => exact hz2'
      intro o' w' r' g' _ _
      have O' := hid (ownY_of (l := L) E (by have : (byV E).length = E.length := by simp [byV]
                                             exact r'))
      have N' := hid (new_grownY HO2.out (Nat.le_refl _) N2.out g')
      clear r' g'
      go_wp2_with fail
      go_roundw
      case rel => exact ⟨k + 1, by simp, by omega, by rw [HNX.out]; exact O'.out, N'.out⟩
      case measure => simp [intOf]; omega
    · obtain rfl : k = 4 := by omega
      have HT := hid (ownY_text HO.out)
      have hcv := HT.out
      clear ho hn
      go_wp2_with fail
      go_ret
      exact ⟨rfl, HN.out⟩
set_option maxRecDepth 100000 in
set_option maxHeartbeats 4000000 in
theorem hSum_any (B : Nat) (a b c d n : Int) (w : World) (h : Blk w B (hashRow a b c d n) 132) : Calls Tryz.prog 65 #[.pointer (some ⟨B, 0, none⟩)] w fun e w' => e = .returned (.string (mkB (dgL a b c d n))) ∧ New w w' := by
  have HE := hid (ended_any a b c d n)
  have c0 := h.cellv 0 rfl; have c1 := h.cellv 1 rfl; have c2 := h.cellv 2 rfl; have c3 := h.cellv 3 rfl; have c4 := h.cellv 4 rfl; have cl := h.lt
  clear h
  go_enter Tryz.func65, Tryz.ntmps65
  go_wp2_with fail
  refine wp_region_held_drew (S := (fun w' => w'.cell? ⟨B, 0, none⟩ = some (.int .u64 a) ∧ w'.cell? ⟨B, 1, none⟩ = some (.int .u64 b) ∧ w'.cell? ⟨B, 2, none⟩ = some (.int .u64 c) ∧ w'.cell? ⟨B, 3, none⟩ = some (.int .u64 d) ∧ w'.cell? ⟨B, 4, none⟩ = some (.int .i64 n))) (by kernel_rfl) ⟨c0, c1, c2, c3, c4⟩ (fun hHeld => ?_)
  refine tk (v := ?_) 0 ?_ ?_
  rotate_left
  · intro w hSw
    (try dsimp only at hSw)
    first | (go_simp; done) | (go_simp; with_reducible rfl) | with_reducible rfl
  simp only [Act.put, List.setIfInBounds_toArray, List.set_cons_zero, List.set_cons_succ]
  refine tk (v := ?_) 1 ?_ ?_
  rotate_left
  · intro w hSw
    (try dsimp only at hSw)
    first | (go_simp; done) | (go_simp; with_reducible rfl) | with_reducible rfl
  simp only [Act.put, List.setIfInBounds_toArray, List.set_cons_zero, List.set_cons_succ]
  refine tk (v := ?_) 2 ?_ ?_
  rotate_left
  · intro w hSw
    (try dsimp only at hSw)
    first | (go_simp; done) | (go_simp; with_reducible rfl) | with_reducible rfl
  simp only [Act.put, List.setIfInBounds_toArray, List.set_cons_zero, List.set_cons_succ]
  refine tk (v := ?_) 3 ?_ ?_
  rotate_left
  · intro w hSw
    (try dsimp only at hSw)
    first | (go_simp; done) | (go_simp; with_reducible rfl) | with_reducible rfl
  simp only [Act.put, List.setIfInBounds_toArray, List.set_cons_zero, List.set_cons_succ]
  refine tk (v := ?_) 4 ?_ ?_
  rotate_left
  · intro w hSw
    (try dsimp only at hSw)
    first | (go_simp; done) | (go_simp; with_reducible rfl) | with_reducible rfl
  simp only [Act.put, List.setIfInBounds_toArray, List.set_cons_zero, List.set_cons_succ]
  refine tk (v := ?_) 5 ?_ ?_
  rotate_left
  · intro w hSw
    (try dsimp only at hSw)
    first | (go_simp; done) | (go_simp; with_reducible rfl) | with_reducible rfl
  simp only [Act.put, List.setIfInBounds_toArray, List.set_cons_zero, List.set_cons_succ]
  refine tk (v := ?_) 6 ?_ ?_
  rotate_left
  · intro w hSw
    (try dsimp only at hSw)
    first | (go_simp; done) | (go_simp; with_reducible rfl) | with_reducible rfl
  simp only [Act.put, List.setIfInBounds_toArray, List.set_cons_zero, List.set_cons_succ]
  refine tk (v := ?_) 7 ?_ ?_
  rotate_left
  · intro w hSw
    (try dsimp only at hSw)
    first | (go_simp; done) | (go_simp; with_reducible rfl) | with_reducible rfl
  simp only [Act.put, List.setIfInBounds_toArray, List.set_cons_zero, List.set_cons_succ]
  refine wpAnyH_ready (rs := [8]) (by kernel_rfl) (by simp) ?_
  refine AllReadyH.cons rfl (fun K hK => ?_) AllReadyH.nil
  go_simp
  (go_at_call 91; refine (HE.out _).mono ?_; rintro e w1 ⟨rfl, n1⟩; have N1 := hid ((Mod.refl (fun _ => False) w).drew.trans n1); clear n1)
  try dsimp only
  refine hK.out _ _ ⟨New.cellv N1.out c0, New.cellv N1.out c1, New.cellv N1.out c2, New.cellv N1.out c3, New.cellv N1.out c4⟩ (fun hHeld8 => ?_)
  clear hK K
  try simp only [Act.put, List.setIfInBounds_toArray, List.set_cons_zero, List.set_cons_succ]
  refine tk (v := ?_) 9 ?_ ?_
  rotate_left
  · intro w hSw
    (try dsimp only at hSw)
    first | (go_simp; done) | (go_simp; with_reducible rfl) | with_reducible rfl
  simp only [Act.put, List.setIfInBounds_toArray, List.set_cons_zero, List.set_cons_succ]
  refine wpAnyH_done (by kernel_rfl) ?_ _
  go_wp2_with fail
  go_ret
  exact ⟨rfl, N1.out⟩
/-- The digest of a text. -/
def sumL (s : List UInt8) : List UInt8 := dgL (laneF (laneB 0) s) (laneF (laneB 1) s) (laneF (laneB 2) s) (laneF (laneB 3) s) s.length
theorem sum_len (s : List UInt8) : (sumL s).length = 32 := dig_len _ _ _ _ _
set_option maxRecDepth 100000 in
set_option maxHeartbeats 4000000 in
theorem sum_any (s : ByteArray) (w : World) (hs : s.size ≤ 4000000000) : Calls Tryz.prog 34 #[.string s] w fun e w' => e = .returned (.string (mkB (sumL s.data.toList))) ∧ New w w' := by
  have HN := hid (hNew_any w)
  have hlen : (s.data.toList.length : Int) = s.size := by rw [Array.length_toList]; rfl
  have HS := hid (show sumL s.data.toList = dgL (laneF (laneB 0) s.data.toList) (laneF (laneB 1) s.data.toList) (laneF (laneB 2) s.data.toList) (laneF (laneB 3) s.data.toList) s.size by unfold sumL; rw [hlen])
  clear hlen
  go_enter Tryz.func34, Tryz.ntmps34
  go_wp2_with fail
  refine HN.out.mono ?_
  rintro e w1 ⟨B, rfl, hb, n1, hz⟩
  have N1 := hid n1
  have HA := hid (hAdd_any B _ _ _ _ 0 s w1 hb hs (by omega))
  clear hb n1
  go_wp2_with fail
  refine HA.out.mono ?_
  rintro e w2 ⟨rfl, hb2, m2⟩
  have HS2 := hid (hSum_any B _ _ _ _ _ w2 hb2)
  have N2 : Hid (New w w2) := hid (N1.out.trans' m2 (fun i hi q => by omega))
  clear hb2 m2
  go_wp2_with fail
  refine HS2.out.mono ?_
  rintro e w3 ⟨rfl, n3⟩
  have N3 := hid (N2.out.trans n3)
  clear n3
  go_wp2_with fail
  go_ret
  exact ⟨by rw [HS.out]; rfl, N3.out⟩
end Go.Proofs.YtnflhjagmngimaaGreatDoor
