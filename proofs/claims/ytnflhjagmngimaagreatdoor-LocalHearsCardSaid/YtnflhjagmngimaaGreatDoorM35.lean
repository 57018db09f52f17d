/-
  Several texts in one, in their build order. The digest of package hash: the walks of begun, take, each, eight. Conditions: the four numbers lie as told. The digest of package hash: the walks of each, begun, New. Conditions: the four numbers lie as told.
-/
import Derived.Test.YtnflhjagmngimaaGreatDoorM7
import Derived.Test.YtnflhjagmngimaaGreatDoorM13
namespace Go.Proofs.YtnflhjagmngimaaGreatDoor
set_option linter.unusedSimpArgs false
set_option linter.unusedVariables false
open Go.RowKit Go.Shelf

def xmulT (h x : Int) : Int := IntKind.u64.wrap (bits .xor .u64 h (IntKind.u64.wrap x) * 1099511628211)
/-- One of the four numbers behind a byte. -/
def laneT (h : Int) (x : UInt8) : Int := bits .xor .u64 (xmulT h x.toNat) (xmulT h x.toNat / 536870912)
theorem arr_at0 (a b c d : Int) (w : World) : (Instr.index 127 (.agg #[.int .u64 a, .int .u64 b, .int .u64 c, .int .u64 d]) (.int .i64 0)).run Tryz.prog w = .ok (.int .u64 a) w := by kernel_rfl
theorem arr_at1 (a b c d : Int) (w : World) : (Instr.index 127 (.agg #[.int .u64 a, .int .u64 b, .int .u64 c, .int .u64 d]) (.int .i64 1)).run Tryz.prog w = .ok (.int .u64 b) w := by kernel_rfl
theorem arr_at2 (a b c d : Int) (w : World) : (Instr.index 127 (.agg #[.int .u64 a, .int .u64 b, .int .u64 c, .int .u64 d]) (.int .i64 2)).run Tryz.prog w = .ok (.int .u64 c) w := by kernel_rfl
theorem arr_at3 (a b c d : Int) (w : World) : (Instr.index 127 (.agg #[.int .u64 a, .int .u64 b, .int .u64 c, .int .u64 d]) (.int .i64 3)).run Tryz.prog w = .ok (.int .u64 d) w := by kernel_rfl
set_option maxRecDepth 100000 in
set_option maxHeartbeats 4000000 in
theorem htake_any (B : Nat) (a b c d n : Int) (x : UInt8) (w : World) (h : Blk w B #[.int .u64 a, .int .u64 b, .int .u64 c, .int .u64 d, .int .i64 n] 132) :
    Calls Tryz.prog 90 #[.pointer (some ⟨B, 0, none⟩), .int .u8 x.toNat] w fun e w' => e = .returned (.tuple #[]) ∧ Blk w' B #[.int .u64 (laneT a x), .int .u64 (laneT b x), .int .u64 (laneT c x), .int .u64 (laneT d x), .int .i64 n] 132 ∧ Mod (· = B) w w' := by
  have HB := hid h
  have c0 := h.cellv 0 rfl; have c1 := h.cellv 1 rfl; have c2 := h.cellv 2 rfl; have c3 := h.cellv 3 rfl; have cl := h.lt
  have f0 := h.frz 0; have f1 := h.frz 1; have f2 := h.frz 2; have f3 := h.frz 3
  have i0 := arr_at0 a b c d; have i1 := arr_at1 a b c d; have i2 := arr_at2 a b c d; have i3 := arr_at3 a b c d
  clear h
  go_enter Tryz.func90, Tryz.ntmps90
  go_wp2_with fail
  refine wp_loop_rounds 5 ?_
  rw [rounds_succ]
  go_wp2_with fail
  rw [rounds_succ]
  go_wp2_with fail
  rw [rounds_succ]
  go_wp2_with fail
  rw [rounds_succ]
  go_wp2_with fail
  rw [rounds_succ]
  go_wp2_with fail
  go_end0
  refine ⟨rfl, ?_, ?_⟩
  · exact ((((HB.out.set 0 _).set 1 _).set 2 _).set 3 _).row (by simp [laneT, xmulT])
  · refine Mod.set (S := fun k => k = B) ?_ ⟨B, 3, none⟩ _ (.inl rfl)
    refine Mod.set (S := fun k => k = B) ?_ ⟨B, 2, none⟩ _ (.inl rfl)
    refine Mod.set (S := fun k => k = B) ?_ ⟨B, 1, none⟩ _ (.inl rfl)
    exact Mod.set (S := fun k => k = B) (Mod.refl _ _) ⟨B, 0, none⟩ _ (.inl rfl)
end Go.Proofs.YtnflhjagmngimaaGreatDoor

namespace Go.Proofs.YtnflhjagmngimaaGreatDoor
set_option linter.unusedSimpArgs false
set_option linter.unusedVariables false
open Go.RowKit Go.Shelf

def laneF (h : Int) (l : List UInt8) : Int := l.foldl laneT h
theorem laneF_next {h : Int} {l : List UInt8} {k : Nat} (hk : k < l.length) : laneF h (l.take (k + 1)) = laneT (laneF h (l.take k)) l[k] := by
  unfold laneF
  rw [List.take_succ_eq_append_getElem hk, List.foldl_append]
  rfl
def hashRow (a b c d n : Int) : Array Value := #[.int .u64 a, .int .u64 b, .int .u64 c, .int .u64 d, .int .i64 n]
theorem byteAtT (t : ByteArray) {k : Nat} (h : k < t.size) : t.data.toList[k]'(by rw [Array.length_toList]; exact h) = t[k] := rfl
set_option maxRecDepth 100000 in
set_option maxHeartbeats 4000000 in
theorem each_any (B : Nat) (a b c d n : Int) (s : ByteArray) (w : World) (h : Blk w B (hashRow a b c d n) 132) (hs : s.size ≤ 4000000000) :
    Calls Tryz.prog 89 #[.string s, .func (.func 90) #[.pointer (some ⟨B, 0, none⟩)] #[]] w fun e w' => e = .returned (.tuple #[]) ∧ Blk w' B (hashRow (laneF a s.data.toList) (laneF b s.data.toList) (laneF c s.data.toList) (laneF d s.data.toList) n) 132 ∧ Mod (· = B) w w' := by
  have HB := hid h
  have hlen : s.data.toList.length = s.size := by rw [Array.length_toList]; rfl
  clear h
  go_enter Tryz.func89, Tryz.ntmps89
  go_wp2_with fail
  go_loopw [7] (fun i wr => ∃ (k : Nat), i = .int .i64 k ∧ k ≤ s.size ∧ Blk wr B (hashRow (laneF a (s.data.toList.take k)) (laneF b (s.data.toList.take k)) (laneF c (s.data.toList.take k)) (laneF d (s.data.toList.take k)) n) 132 ∧ Mod (· = B) w wr) (fun i _ => s.size - (intOf i).toNat)
  case atStart => exact ⟨0, rfl, by omega, HB.out, Mod.refl _ _⟩
  case round =>
    obtain ⟨k, rfl, hk, hb, hm⟩ := hrel
    have HM := hid hm; have HB1 := hid hb
    clear hm hb
    by_cases hlt : k < s.size
    · have hltI : (k : Int) < (s.size : Int) := by omega
      have HN := hid (fun h => laneF_next (h := h) (l := s.data.toList) (k := k) (by omega))
      rw [byteAtT s hlt] at HN
      have HT := hid (htake_any B _ _ _ _ n s[k] wr HB1.out)
      go_wp2_with (go_at_call 90; refine HT.out.mono ?_; rintro e w1 ⟨rfl, hb1, hm1⟩)
      go_roundw
      case rel => exact ⟨k + 1, by simp, by omega, by rw [HN.out, HN.out, HN.out, HN.out]; exact hb1, HM.out.trans hm1⟩
      case measure => simp [intOf]; omega
    · have hkl : s.data.toList.take k = s.data.toList := List.take_of_length_le (by omega)
      rw [hkl] at HB1
      clear hkl
      go_wp2_with fail
      go_end0
      exact ⟨rfl, HB1.out, HM.out⟩
/-- With what each of the four numbers begins. -/
def laneB (k : Int) : Int := IntKind.u64.wrap (14695981039346656037 + IntKind.u64.wrap (k * 11400714819323198485))
theorem laneB0 : laneB 0 = 14695981039346656037 := by decide +kernel
theorem laneB1 : laneB 1 = IntKind.u64.wrap 26096695858669854522 := by decide +kernel
theorem laneB2 : laneB 2 = IntKind.u64.wrap (14695981039346656037 + IntKind.u64.wrap 22801429638646396970) := by decide +kernel
theorem laneB3 : laneB 3 = IntKind.u64.wrap (14695981039346656037 + IntKind.u64.wrap 34202144457969595455) := by decide +kernel
set_option maxRecDepth 100000 in
set_option maxHeartbeats 4000000 in
theorem begun_any (w : World) :
    Calls Tryz.prog 88 #[] w fun e w' => e = .returned (.agg #[.int .u64 (laneB 0), .int .u64 (laneB 1), .int .u64 (laneB 2), .int .u64 (laneB 3)]) ∧ New w w' := by
  rw [laneB0, laneB1, laneB2, laneB3]
  go_enter Tryz.func88, Tryz.ntmps88
  go_wp2_with fail
  refine wp_loop_rounds 5 ?_
  rw [rounds_succ]
  go_wp2_with fail
  rw [rounds_succ]
  go_wp2_with fail
  rw [rounds_succ]
  go_wp2_with fail
  rw [rounds_succ]
  go_wp2_with fail
  rw [rounds_succ]
  go_wp2_with fail
  exact bodyPost_ret (results_cell_row rfl _ _ w.heap.size _ _ (0, 0) _ rfl ((Blk.new w _ 129).alloc _) Tryz.underlying129 rfl (by kernel_rfl)) rfl ⟨rfl, ((Mod.refl _ _).alloc _).alloc _⟩
set_option maxRecDepth 100000 in
set_option maxHeartbeats 4000000 in
theorem hNew_any (w : World) :
    Calls Tryz.prog 63 #[] w fun e w' => ∃ B, e = .returned (.pointer (some ⟨B, 0, none⟩)) ∧ Blk w' B (hashRow (laneB 0) (laneB 1) (laneB 2) (laneB 3) 0) 132 ∧ New w w' ∧ w.heap.size ≤ B := by
  have HB := hid (begun_any w)
  obtain ⟨x0, h0⟩ : ∃ x, x = laneB 0 := ⟨_, rfl⟩
  obtain ⟨x1, h1⟩ : ∃ x, x = laneB 1 := ⟨_, rfl⟩
  obtain ⟨x2, h2⟩ : ∃ x, x = laneB 2 := ⟨_, rfl⟩
  obtain ⟨x3, h3⟩ : ∃ x, x = laneB 3 := ⟨_, rfl⟩
  rw [← h0, ← h1, ← h2, ← h3] at HB ⊢
  clear h0 h1 h2 h3
  go_enter Tryz.func63, Tryz.ntmps63
  go_wp2_with fail
  refine HB.out.mono ?_
  rintro e w1 ⟨rfl, n1⟩
  have N1 := hid n1
  clear n1
  go_wp2_with fail
  go_ret
  exact ⟨w1.heap.size, rfl, Blk.new w1 _ _, N1.out.alloc _, N1.out.size⟩
set_option maxRecDepth 100000 in
set_option maxHeartbeats 4000000 in
theorem hAdd_any (B : Nat) (a b c d n : Int) (s : ByteArray) (w : World) (h : Blk w B (hashRow a b c d n) 132) (hs : s.size ≤ 4000000000) (hn : 0 ≤ n ∧ n ≤ 1000000000000) :
    Calls Tryz.prog 64 #[.pointer (some ⟨B, 0, none⟩), .string s] w fun e w' => e = .returned (.tuple #[]) ∧ Blk w' B (hashRow (laneF a s.data.toList) (laneF b s.data.toList) (laneF c s.data.toList) (laneF d s.data.toList) (n + s.size)) 132 ∧ Mod (· = B) w w' := by
  have HE := hid (each_any B a b c d n s w h hs)
  have hw : IntKind.i64.wrap (n + s.size) = n + s.size := by rw [IntKind.wrap_i64]; omega
  have hmf : ∀ (fn : Fn) (first cap : Array Value) (w : World), (Instr.makeFunc fn first cap).run Tryz.prog w = .ok (.func fn first cap) w := fun _ _ _ _ => rfl
  have hl := h.lt
  clear h
  go_enter Tryz.func64, Tryz.ntmps64
  go_wp2_with fail
  refine HE.out.mono ?_
  rintro e w1 ⟨rfl, hb1, hm1⟩
  have HB1 := hid hb1; have HM1 := hid hm1
  have c4 : w1.cell? ⟨B, 4, none⟩ = some (.int .i64 n) := hb1.cellv 4 rfl
  have cl := hb1.lt; have f4 := hb1.frz 4
  clear hb1 hm1
  go_wp2_with fail
  go_end0
  refine ⟨rfl, (HB1.out.set 4 _).row (by simp [hashRow]), ?_⟩
  exact Mod.set (S := fun k => k = B) HM1.out ⟨B, 4, none⟩ _ (.inl rfl)
end Go.Proofs.YtnflhjagmngimaaGreatDoor
