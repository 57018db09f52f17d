/-
  Several texts in one, in their build order. The library's FormatUint at base 16, of numbers below 65536. Condition: the library's table of trailing zeros is as laid. The walks of need, caught, number (package addr). Conditions: the text is small; the library's variables are as laid. The walks of the two families' read (package addr). Conditions: the text is small; the library's variables are as laid.
-/
import Derived.Test.YtbgmkplpolgebaaGreatDoorM24
import Derived.Test.YtbgmkplpolgebaaGreatDoorM3
import Derived.Defers
import Derived.Recover
import Derived.Test.YtbgmkplpolgebaaGreatDoorM14
import Derived.Test.YtbgmkplpolgebaaGreatDoorM25
namespace Go.Proofs.YtbgmkplpolgebaaGreatDoor
set_option linter.unusedSimpArgs false
set_option linter.unusedVariables false
open Go.RowKit Go.Shelf

def TzAt (w : World) : Prop := w.cell? ⟨8, 15, none⟩ = some (.int .u8 4)
theorem TzAt.new {w w' : World} (h : TzAt w) (n : New w w') : TzAt w' := n.cellv h
theorem tz16 (w : World) (h : TzAt w) : Calls Tryz.prog 217 #[.int .u64 16] w fun e w' => e = .returned (.int .i64 4) ∧ w = w' := by
  have hx : (IntKind.u64.wrap (bits BinOp.and IntKind.u64 16 (IntKind.u64.wrap (-16)) * 285870213051353865) / 288230376151711744).toNat = 15 := by decide +kernel
  have h : w.cell? ⟨8, (IntKind.u64.wrap (bits BinOp.and IntKind.u64 16 (IntKind.u64.wrap (-16)) * 285870213051353865) / 288230376151711744).toNat, none⟩ = some (.int .u8 4) := by rw [hx]; exact h
  clear hx
  go_enter Tryz.func217, Tryz.ntmps217
  go_wp2
  go_ret
  exact ⟨rfl, rfl⟩
theorem tz (w : World) (h : TzAt w) : Calls Tryz.prog 213 #[.int .u64 16] w fun e w' => e = .returned (.int .i64 4) ∧ w = w' := by
  have H := hid (tz16 w h)
  go_enter Tryz.func213, Tryz.ntmps213
  go_wp2_with fail
  refine H.out.mono ?_
  rintro e w1 ⟨rfl, rfl⟩
  go_wp2
  go_ret
  exact ⟨rfl, rfl⟩
theorem pow2 (w : World) : Calls Tryz.prog 212 #[.int .i64 16] w fun e w' => e = .returned (.bool true) ∧ w = w' := by
  go_enter Tryz.func212, Tryz.ntmps212
  go_wp2
  go_ret
  exact ⟨rfl, rfl⟩
def dig36 : ByteArray := ⟨#[48, 49, 50, 51, 52, 53, 54, 55, 56, 57, 97, 98, 99, 100, 101, 102, 103, 104, 105, 106, 107, 108, 109, 110, 111, 112, 113, 114, 115, 116, 117, 118, 119, 120, 121, 122]⟩
theorem dig_at (n : Nat) (h : n < 16) (h2 : n < dig36.size) : dig36[n] = hexD n := by
  have h3 : ∀ n : Nat, n < 16 → dig36.data.toList[n]? = some (hexD n) := by decide +kernel
  have := h3 n h
  rw [List.getElem?_eq_getElem (by rw [Array.length_toList]; exact h2)] at this
  exact Option.some.inj this
theorem and_15 (z : Int) (h0 : 0 ≤ z) (h1 : z < 18446744073709551616) : bits .and .u64 z 15 = z % 16 := by go_bits2
theorem arr_65 : Tryz.prog.arrayLen 231 = 65 := by kernel_rfl
def bndH : Nat → Nat
  | 0 => 65536
  | 1 => 4096
  | 2 => 256
  | _ => 16
theorem bndH_step {v n : Nat} (h : v < bndH n) (h2 : 16 ≤ v) : n ≤ 2 ∧ v / 16 < bndH (n + 1) := by
  match n, h with
  | 0, h => exact ⟨by omega, by show v / 16 < 4096; have : v < 65536 := h; omega⟩
  | 1, h => exact ⟨by omega, by show v / 16 < 256; have : v < 4096 := h; omega⟩
  | 2, h => exact ⟨by omega, by show v / 16 < 16; have : v < 256 := h; omega⟩
  | n + 3, h => exact absurd (show v < 16 from h) (by omega)
/-- The last cells of the row hold the bytes D. -/
def TailAt (w : World) (b : Nat) (D : List UInt8) : Prop := ∃ cs : Array Value, Blk w b cs 231 ∧ cs.size = 65 ∧ ∀ (j : Nat) (hj : j < D.length), cs[65 - D.length + j]? = some (.int .u8 (D[j].toNat : Int))
theorem TailAt.put {w : World} {b : Nat} {D : List UInt8} (h : TailAt w b D) (x : UInt8) (hD : D.length ≤ 60) : TailAt (w.setCell ⟨b, 65 - D.length - 1, none⟩ (.int .u8 (x.toNat : Int))) b (x :: D) := by
  obtain ⟨cs, h1, h2, h3⟩ := h
  refine ⟨cs.setIfInBounds (65 - D.length - 1) (.int .u8 (x.toNat : Int)), h1.set _ _, by simpa using h2, fun j hj => ?_⟩
  rw [List.length_cons] at hj ⊢
  rw [Array.getElem?_setIfInBounds]
  match j, hj with
  | 0, _ => rw [if_pos (by omega), if_pos (by omega)]; rfl
  | j + 1, hj =>
    rw [if_neg (by omega), List.getElem_cons_succ, show 65 - (D.length + 1) + (j + 1) = 65 - D.length + j by omega]
    exact h3 j (by omega)
theorem TailAt.text {w : World} {b : Nat} {D : List UInt8} (h : TailAt w b D) (hD : D.length ≤ 60) (n c : Nat) (hn : n = D.length) : (convert 42 9 (.slice (some ⟨b, 65 - n, none⟩) n c)).run Tryz.prog w = .ok (.string ⟨D.toArray⟩) w := by
  subst hn
  obtain ⟨cs, h1, h2, h3⟩ := h
  refine run_convert_bytes_back w 42 9 5 ⟨b, 65 - D.length, none⟩ c D Tryz.underlying42 Tryz.underlying5 Tryz.underlying9 (fun j hj => ?_)
  rw [Lib.add_plain, h1.cell]
  exact h3 j hj
theorem TailAt.facts {w : World} {b : Nat} {D : List UInt8} (h : TailAt w b D) (i : Nat) (hi : i < 65) : b < w.heap.size ∧ w.frozen? ⟨b, i, none⟩ = false ∧ ∃ v, w.cell? ⟨b, i, none⟩ = some v := by
  obtain ⟨cs, h1, h2, h3⟩ := h
  exact ⟨h1.lt, h1.frz i, cs[i]'(by omega), by rw [h1.cell]; exact Array.getElem?_eq_getElem _⟩
set_option maxRecDepth 100000 in
set_option maxHeartbeats 8000000 in
theorem fbits (u : Nat) (hu : u ≤ 65535) (w : World) (h : TzAt w) : Calls Tryz.prog 198 #[.slice none 0 0, .int .u64 u, .int .i64 16, .bool false, .bool false] w fun e w' => e = .returned (.tuple #[.slice none 0 0, .string ⟨(hexG u).toArray⟩]) ∧ New w w' := by
  have HP := hid (fun w => pow2 w)
  have HT := hid (fun W (n : New w W) => tz W (h.new n))
  clear h
  go_enter Tryz.func198, Tryz.ntmps198
  go_wp2_with fail
  refine (HP.out _).mono ?_
  rintro e w1 ⟨rfl, rfl⟩
  go_wp2_with fail
  refine (HT.out _ ((Mod.refl _ _).alloc _)).mono ?_
  rintro e w1 ⟨rfl, rfl⟩
  have hz : (Tryz.zeroCells231).size = 65 := by kernel_rfl
  have HB := hid (show TailAt (w.alloc (.cells Tryz.zeroCells231 231)) w.heap.size [] from ⟨_, Blk.new w _ _, hz, fun j hj => absurd hj (by simp)⟩)
  have HN := hid ((Mod.refl _ w).alloc (.cells Tryz.zeroCells231 231) : New w _)
  go_wp2
  obtain ⟨w2, hw2⟩ : ∃ w2, w2 = w.alloc (.cells Tryz.zeroCells231 231) := ⟨_, rfl⟩
  rw [← hw2] at HB HN
  rw [← hw2]
  obtain ⟨b, hb⟩ : ∃ b, b = w.heap.size := ⟨_, rfl⟩
  have HWB := hid (show w.heap.size ≤ b by omega)
  rw [← hb] at HB
  rw [← hb]
  have HU := hid hu
  clear hw2 hb HP HT hz hu
  go_loopw [13, 1] (fun i x wr => ∃ (v : Nat) (D : List UInt8), i = .int .i64 (65 - (D.length : Int)) ∧ x = .int .u64 v ∧ D.length ≤ 3 ∧ v < bndH D.length ∧ v ≤ 65535 ∧ hexG v ++ D = hexG u ∧ TailAt wr b D ∧ New w wr) (fun _ x _ => (intOf x).toNat)
  case atStart => exact ⟨u, [], rfl, rfl, by simp, by have := HU.out; show u < 65536; omega, HU.out, by simp, HB.out, HN.out⟩
  case round =>
    clear HB HN HU
    obtain ⟨v, D, rfl, rfl, hD, hv, hvv, hg, hT, hn⟩ := hrel
    have HT := hid hT; have HN := hid hn; have HG := hid hg
    have hm1 := and_15 (v : Int) (by omega) (by omega)
    obtain ⟨L, hL⟩ : ∃ L, L = v % 16 := ⟨_, rfl⟩
    obtain ⟨H, hH⟩ : ∃ H, H = v / 16 := ⟨_, rfl⟩
    have m1 : bits .and .u64 (v : Int) 15 = (L : Int) := by rw [hm1]; omega
    have d1 : (v : Int) / 16 = (H : Int) := by omega
    have hL16 : L < 16 := by omega
    have b1 : L < dig36.size := by show L < 36; omega
    have e1 := dig_at L hL16 b1
    unfold dig36 at e1
    obtain ⟨f1, f2, vv, f3⟩ := hT.facts (65 - D.length - 1) (by omega)
    have hidx : ((65 : Int) - (D.length : Int) - 1).toNat = 65 - D.length - 1 := by omega
    clear hT hn hg hm1
    by_cases h16 : 16 ≤ v
    · have h16I : (16 : Int) ≤ (v : Int) := by omega
      obtain ⟨s1, s2⟩ := bndH_step hv h16
      have HG2 := hid (show hexG H ++ (hexD L :: D) = hexG u by rw [← HG.out, hexG_more (u := v) (by omega), hH, hL]; simp)
      have s3 : H < bndH (D.length + 1) := by rw [hH]; exact s2
      clear hv s2 hL hH
      have hi0 : (0 : Int) ≤ 65 - (D.length : Int) - 1 := by omega
      go_wp2
      erw [e1]
      exact ⟨⟨H, hexD L :: D, by rw [List.length_cons]; congr 1; omega, rfl, by rw [List.length_cons]; omega, s3, by omega, HG2.out, HT.out.put (hexD L) (by omega), HN.out.set _ _ (.inr HWB.out)⟩, by simp [intOf]; omega⟩
    · have h16I : ¬ (16 : Int) ≤ (v : Int) := by omega
      have hvL : v = L := by omega
      have HG2 := hid (show hexD L :: D = hexG u by rw [← HG.out, hexG_one (u := v) (by omega), hvL]; rfl)
      clear hv hL hH d1
      have hi0 : (0 : Int) ≤ 65 - (D.length : Int) - 1 := by omega
      have hsl : ∀ W, (Instr.sliceAt 231 (.pointer (some ⟨b, 0, none⟩)) (some (.int .i64 (65 - (D.length : Int) - 1))) none none).run Tryz.prog W = .ok (.slice (some ⟨b, 64 - D.length, none⟩) (D.length + 1) (D.length + 1)) W := fun W => by
        rw [run_sliceAt_array_l W 231 ⟨b, 0, none⟩ Tryz.underlying231 .i64 (65 - (D.length : Int) - 1) hi0 (by rw [arr_65]; omega)]
        have hz : Tryz.prog.elem 231 = 5 := by kernel_rfl
        rw [hz, arr_65, hidx]
        go_simp
        rw [if_neg (by omega)]
        exact ⟨by congr 1; omega, by omega⟩
      have HTX := hid (HT.out.put (hexD L) (by omega))
      have hcv := HTX.out.text (by rw [List.length_cons]; omega) (D.length + 1) (D.length + 1) (by rw [List.length_cons])
      rw [show 65 - (D.length + 1) = 64 - D.length by omega] at hcv
      go_wp2
      erw [e1]
      erw [hcv]
      go_wp2
      go_ret2
      exact ⟨by rw [HG2.out]; rfl, HN.out.set _ _ (.inr HWB.out)⟩
theorem fmtu_hex (u : Nat) (hu : u ≤ 65535) (w : World) (h : TzAt w) : Calls Tryz.prog 191 #[.int .u64 u, .int .i64 16] w fun e w' => e = .returned (.string ⟨(hexG u).toArray⟩) ∧ New w w' := by
  have HB := hid (fbits u hu w h)
  clear h
  go_enter Tryz.func191, Tryz.ntmps191
  go_wp2_with fail
  refine HB.out.mono ?_
  rintro e w1 ⟨rfl, n1⟩
  have N1 := hid n1
  clear n1
  go_wp2
  go_ret
  exact ⟨rfl, N1.out⟩
theorem fmtu_int (b u : Nat) (hb : b = 10 ∨ b = 16) (hu : u ≤ 65535) (w : World) (h : VarP w) : Calls Tryz.prog 191 #[.int .u64 u, .int .i64 b] w fun e w' => e = .returned (.string ⟨(fmtU b u).toArray⟩) ∧ New w w' := by
  rcases hb with rfl | rfl
  · exact fmtu_ten u hu w h.tab
  · exact fmtu_hex u hu w h.tz
theorem fmtu_any (b u : Nat) (hb : b = 10 ∨ b = 16) (hu : u ≤ 65535) (w : World) (h : VarP w) : Calls Tryz.prog 170 #[.int .u64 u, .int .i64 b] w fun e w' => e = .returned (.string ⟨(fmtU b u).toArray⟩) ∧ New w w' := by
  have HB := hid (fmtu_int b u hb hu w h)
  clear h
  go_enter Tryz.func170, Tryz.ntmps170
  go_wp2_with fail
  refine HB.out.mono ?_
  rintro e w1 ⟨rfl, n1⟩
  have N1 := hid n1
  clear n1
  go_wp2
  go_ret
  exact ⟨rfl, N1.out⟩
theorem pu_int (b : Nat) (hb : b = 10 ∨ b = 16) (t : ByteArray) (w : World) (hs : t.size ≤ 70000) : Calls Tryz.prog 189 #[.string t, .int .i64 b, .int .i64 31] w fun e w' => PuTold (puP b t.data.toList) e ∧ New w w' := by
  rcases hb with rfl | rfl
  · exact pu_ten t w hs
  · exact pu_hex t w hs
theorem pu_any (b : Nat) (hb : b = 10 ∨ b = 16) (t : ByteArray) (w : World) (hs : t.size ≤ 70000) (hv : VarP w) : Calls Tryz.prog 169 #[.string t, .int .i64 b, .int .i64 31] w fun e w' => (∃ (x : Int) (E : Value), e = .returned (.tuple #[.int .u64 x, E]) ∧ 0 ≤ x ∧ x ≤ 2147483647 ∧ ((∃ u : Nat, puP b t.data.toList = some u ∧ x = u ∧ E = .nilIface) ∨ (puP b t.data.toList = none ∧ ∃ tp p, E = .iface tp p))) ∧ New w w' := by
  have HB := hid (pu_int b hb t w hs)
  obtain ⟨R, hR⟩ : ∃ R, R = puP b t.data.toList := ⟨_, rfl⟩
  rw [← hR] at HB ⊢
  have HV := hid (fun W (n : New w W) => hv.new n)
  clear hv hR
  go_enter Tryz.func169, Tryz.ntmps169
  go_wp2_with fail
  refine HB.out.mono ?_
  rintro e w1 ⟨⟨x, E, rfl, h0, h1, hr⟩, n1⟩
  have N1 := hid n1
  clear n1
  rcases hr with ⟨u, hr, hx, rfl⟩ | ⟨hr, hE⟩
  · have HR := hid (And.intro hr hx)
    clear hr hx
    go_wp2
    go_ret2
    exact ⟨⟨_, _, rfl, h0, h1, .inl ⟨u, HR.out.1, HR.out.2, rfl⟩⟩, N1.out⟩
  · have HR := hid hr
    clear hr
    rcases hE with rfl | rfl
    · unfold numErr
      go_wp2_with fail
      obtain ⟨tp, p, hc⟩ := (HV.out _ N1.out).rngC
      refine (Tryz.strconv_toError_range _ t b 31 (.iface tp p) _ (by omega) hc (.inr ⟨_, _, rfl⟩)).mono ?_
      rintro e w2 ⟨N, rfl, -, -, hb2⟩
      have N2 := hid (N1.out.trans (New.of_below hb2))
      clear hb2 hc
      go_wp2
      go_ret2
      exact ⟨⟨_, _, rfl, h0, h1, .inr ⟨HR.out, _, _, rfl⟩⟩, N2.out⟩
    · unfold numErr
      go_wp2_with fail
      obtain ⟨tp, p, hc⟩ := (HV.out _ N1.out).synC
      refine (Tryz.strconv_toError_syntax _ t b 31 (.iface tp p) _ (by omega) hc (.inr ⟨_, _, rfl⟩)).mono ?_
      rintro e w2 ⟨N, rfl, -, -, hb2⟩
      have N2 := hid (N1.out.trans (New.of_below hb2))
      clear hb2 hc
      go_wp2
      go_ret2
      exact ⟨⟨_, _, rfl, h0, h1, .inr ⟨HR.out, _, _, rfl⟩⟩, N2.out⟩
end Go.Proofs.YtbgmkplpolgebaaGreatDoor

namespace Go.Proofs.YtbgmkplpolgebaaGreatDoor
set_option linter.unusedSimpArgs false
set_option linter.unusedVariables false
open Go.RowKit Go.Shelf

/-- What a call stops with. -/
def toldA (k : Int) : List PanicEntry := [{ v := .iface 189 (.int .i64 k), recovered := false }]
theorem aneed_no (k : Int) (w : World) : Calls Tryz.prog 130 #[.bool false, .int .i64 k] w fun e w' => e = .panicked (toldA k) ∧ w = w' := by
  go_enter Tryz.func130, Tryz.ntmps130
  go_wp2
  exact ⟨rfl, rfl, rfl⟩
theorem aneed_yes (k : Int) (w : World) : Calls Tryz.prog 130 #[.bool true, .int .i64 k] w fun e w' => e = .returned (.tuple #[]) ∧ w = w' := by
  go_enter Tryz.func130, Tryz.ntmps130
  go_wp2
  go_end0
  exact ⟨rfl, rfl⟩
theorem acaught_idle (p : Addr) (w : World) :
    CallsD Tryz.prog 128 #[.pointer (some p)] .returning w fun e u' w' => e = .returned (.tuple #[]) ∧ u' = .returning ∧ w' = w := by
  refine callsD_of_wpS Tryz.func128 rfl fun c₀ cs hu => ?_
  apply wpS_seq
  apply wpS_region
  simp [wpOpsS, go_sem, recoverD, hu, Tryz.ntmps128, Exit.thenS]
  apply wpS_seq
  refine wpS_of_wp ?_
  go_wp2
  refine wpS_cond (t := false) (by simp [Act.eval, Array.replicate]) ?_
  simp only [Bool.false_eq_true, if_false]
  refine wpS_of_wp (wp_skip ?_)
  cases c₀
  simp_all [bodyPostS, results, Tryz.results128]
set_option maxRecDepth 100000 in
set_option maxHeartbeats 1000000 in
theorem acaught_told (q : Nat) (k : Int) (w : World) (hq : Blk w q #[.int .i64 0] 28) :
    CallsD Tryz.prog 128 #[.pointer (some ⟨q, 0, none⟩)] (.panicking (toldA k)) w fun e u' w' =>
      e = .returned (.tuple #[]) ∧ u' = .panicking [{ v := .iface 189 (.int .i64 k), recovered := true }] ∧ Blk w' q #[.int .i64 k] 28 ∧ Mod (fun j => j = q) w w' := by
  obtain ⟨q1, q2, q3⟩ := hq.one
  have HQ := hid hq
  clear hq
  unfold toldA
  have hta : ∀ (x : Int) (w : World), (Instr.typeAssert (.iface 189 (.int .i64 x)) 20 189 true).run Tryz.prog w = .ok (.tuple #[.int .i64 x, .bool true]) w := fun _ _ => by simp [Instr.typeAssert, run_underlying Tryz.underlying189, Result.andThen]
  refine callsD_of_wpS Tryz.func128 rfl fun c₀ cs hu => ?_
  apply wpS_seq
  apply wpS_region
  simp [wpOpsS, go_sem, recoverD, hu, Tryz.ntmps128, Exit.thenS, show Array.replicate 18 undef = #[undef, undef, undef, undef, undef, undef, undef, undef, undef, undef, undef, undef, undef, undef, undef, undef, undef, undef] from rfl, show Array.replicate 19 undef = #[undef, undef, undef, undef, undef, undef, undef, undef, undef, undef, undef, undef, undef, undef, undef, undef, undef, undef, undef] from rfl]
  apply wpS_seq
  refine wpS_of_wp ?_
  go_wp2
  refine wpS_cond (t := true) (by simp [Act.eval, Array.replicate]) ?_
  simp only [if_true]
  refine wpS_of_wp ?_
  go_wp2
  refine ⟨rfl, .panicking [{ v := .iface 189 (.int .i64 k), recovered := true }], ?_, .tuple #[], by simp [results, Tryz.results128], rfl, rfl, ?_, ?_⟩
  · first | rfl | (simp; done) | (cases c₀; simp_all)
  · apply Blk.row
    · repeat (first | with_reducible exact HQ.out | (with_reducible apply Blk.newAt; (simp; done)) | with_reducible apply Blk.alloc | with_reducible apply Blk.drew | with_reducible apply Blk.drewN | with_reducible apply Blk.set | (with_reducible apply Blk.other; · first | (simp; done) | (simp; omega) | omega) | (with_reducible apply Blk.putObj; · first | (simp; done) | (simp; omega) | omega))
    · rfl
  · repeat (first | with_reducible exact Mod.refl _ _ | with_reducible refine Mod.alloc ?_ _ | with_reducible refine Mod.drew ?_ | with_reducible refine Mod.drewN ?_ _ | (with_reducible refine Mod.set ?_ _ _ (by first | exact .inl rfl | (right; omega) | (right; simp; done) | (right; simp; omega) | (left; omega) | (left; simp; done) | (left; simp; omega))) | (with_reducible refine Mod.putObj ?_ _ _ (by first | exact .inl rfl | (right; omega) | (right; simp; done) | (right; simp; omega) | (left; omega) | (left; simp; done) | (left; simp; omega))))
def numE : Option Nat → Ending
  | some u => .returned (.int .i64 u)
  | none => .panicked (toldA 2)
theorem numA_no {b most : Nat} {s : List UInt8} (h : puP b s = none) : numA b most s = none := by unfold numA; rw [h]
theorem numA_big {b most u : Nat} {s : List UInt8} (h : puP b s = some u) (h2 : ¬ u ≤ most) : numA b most s = none := by
  unfold numA; rw [h]; simp only; rw [if_neg (fun q => h2 q.1)]
theorem numA_odd {b most u : Nat} {s : List UInt8} (h : puP b s = some u) (h2 : fmtU b u ≠ s) : numA b most s = none := by
  unfold numA; rw [h]; simp only; rw [if_neg (fun q => h2 q.2)]
theorem numA_yes {b most u : Nat} {s : List UInt8} (h : puP b s = some u) (h1 : u ≤ most) (h2 : fmtU b u = s) : numA b most s = some u := by
  unfold numA; rw [h]; simp only; rw [if_pos ⟨h1, h2⟩]
theorem toL_eq {a b : ByteArray} : (a.toList == b.toList) = decide (a.data.toList = b.data.toList) := by
  rw [ByteArray.toList_eq, ByteArray.toList_eq]
  rw [Bool.eq_iff_iff, beq_iff_eq, decide_eq_true_eq]
set_option maxRecDepth 100000 in
set_option maxHeartbeats 4000000 in
theorem number_any (b most : Nat) (hb : b = 10 ∨ b = 16) (hm : most ≤ 65535) (t : ByteArray) (w : World) (hs : t.size ≤ 70000) (hv : VarP w) :
    Calls Tryz.prog 131 #[.string t, .int .i64 b, .int .i64 most] w fun e w' => e = numE (numA b most t.data.toList) ∧ New w w' := by
  have HB := hid (pu_any b hb t w hs hv)
  have HF := hid (fun (u : Nat) (hu : u ≤ 65535) W (n : New w W) => fmtu_any b u hb hu W (hv.new n))
  obtain ⟨R, hR⟩ : ∃ R, R = numA b most t.data.toList := ⟨_, rfl⟩
  rw [← hR]
  have HR := hid hR
  clear hv hR
  go_enter Tryz.func131, Tryz.ntmps131
  go_wp2_with fail
  refine HB.out.mono ?_
  rintro e w1 ⟨⟨x, E, rfl, h0, h1, hr⟩, n1⟩
  have N1 := hid n1
  clear n1 HB
  rcases hr with ⟨u, hr, rfl, rfl⟩ | ⟨hr, tp, p, rfl⟩
  · have HP := hid hr
    by_cases hle : u ≤ most
    · have hleI : (u : Int) ≤ (most : Int) := by omega
      have hd : decide ((u : Int) ≤ (most : Int)) = true := decide_eq_true hleI
      by_cases he : fmtU b u = t.data.toList
      · have HX : Hid (R = some u) := hid (by rw [HR.out]; exact numA_yes hr hle he)
        have heq : ((⟨(fmtU b u).toArray⟩ : ByteArray).toList == t.toList) = true := by rw [toL_eq]; exact decide_eq_true he
        obtain ⟨F, hF⟩ : ∃ F : ByteArray, F = ⟨(fmtU b u).toArray⟩ := ⟨_, rfl⟩
        have HFF := hid (fun W n => HF.out u (by omega) W n)
        rw [← hF] at heq HFF
        clear hr he hF HF HR
        go_wp2_with fail
        refine (HFF.out _ N1.out).mono ?_
        rintro e w2 ⟨rfl, n2⟩
        have N2 := hid (N1.out.trans n2)
        clear n2
        go_wp2_with fail
        refine (aneed_yes 2 _).mono ?_
        rintro e w3 ⟨rfl, rfl⟩
        go_wp2
        go_ret
        exact ⟨by rw [HX.out]; rfl, N2.out⟩
      · have HX : Hid (R = none) := hid (by rw [HR.out]; exact numA_odd hr he)
        have heq : ((⟨(fmtU b u).toArray⟩ : ByteArray).toList == t.toList) = false := by rw [toL_eq]; exact decide_eq_false he
        obtain ⟨F, hF⟩ : ∃ F : ByteArray, F = ⟨(fmtU b u).toArray⟩ := ⟨_, rfl⟩
        have HFF := hid (fun W n => HF.out u (by omega) W n)
        rw [← hF] at heq HFF
        clear hr he hF HF HR
        go_wp2_with fail
        refine (HFF.out _ N1.out).mono ?_
        rintro e w2 ⟨rfl, n2⟩
        have N2 := hid (N1.out.trans n2)
        clear n2
        go_wp2_with fail
        refine (aneed_no 2 _).mono ?_
        rintro e w3 ⟨rfl, rfl⟩
        go_wp2
        exact ⟨rfl, by rw [HX.out]; rfl, N2.out⟩
    · have hleI : ¬ (u : Int) ≤ (most : Int) := by omega
      have hd : decide ((u : Int) ≤ (most : Int)) = false := decide_eq_false hleI
      have HX : Hid (R = none) := hid (by rw [HR.out]; exact numA_big hr hle)
      clear hr HF HR
      go_wp2_with fail
      refine (aneed_no 2 _).mono ?_
      rintro e w3 ⟨rfl, rfl⟩
      go_wp2
      exact ⟨rfl, by rw [HX.out]; rfl, N1.out⟩
  · have HX : Hid (R = none) := hid (by rw [HR.out]; exact numA_no hr)
    clear hr HF HR
    go_wp2_with fail
    refine (aneed_no 2 _).mono ?_
    rintro e w3 ⟨rfl, rfl⟩
    go_wp2
    exact ⟨rfl, by rw [HX.out]; rfl, N1.out⟩
end Go.Proofs.YtbgmkplpolgebaaGreatDoor

namespace Go.Proofs.YtbgmkplpolgebaaGreatDoor
set_option linter.unusedSimpArgs false
set_option linter.unusedVariables false
open Go.RowKit Go.Shelf

def ipE : Option (List UInt8) → Ending
  | some l => .returned (.string (mkB l))
  | none => .panicked (toldA 2)
theorem take_next {α : Type} {l : List α} {k : Nat} (h : k < l.length) : l.take (k + 1) = l.take k ++ [l[k]] := List.take_succ_eq_append_getElem h
theorem take_all {α : Type} {l : List α} {k : Nat} (h : k < l.length) : l = l.take k ++ l[k] :: l.drop (k + 1) := by
  rw [List.getElem_cons_drop, List.take_append_drop]
theorem pcs_size (c : UInt8) (s : List UInt8) {k : Nat} (h : k < (pieces [] c s).length) : (mkB (pieces [] c s)[k]).size ≤ s.length + 1 := by
  have := piece_le [] (by simp) c s (pieces [] c s)[k] (List.getElem_mem h)
  have e : (mkB (pieces [] c s)[k]).size = ((pieces [] c s)[k]).length := size_list _
  omega
set_option maxRecDepth 100000 in
set_option maxHeartbeats 8000000 in
theorem read4_any (s : ByteArray) (w : World) (hs : s.size ≤ 65536) (hv : VarP w) : Calls Tryz.prog 236 #[.agg #[], .string s] w fun e w' => e = ipE (read4 s.data.toList) ∧ New w w' := by
  obtain ⟨i0, hi, hz0, hz1, hz2⟩ := info_parts info_byte
  have hlen : s.data.toList.length = s.size := by rw [Array.length_toList]; rfl
  have HSP := hid (fun W (n : New w W) => split_c 46 s W (hv.new n) (by omega))
  have HV := hid (fun W (n : New w W) => hv.new n)
  obtain ⟨R, hR⟩ : ∃ R, R = read4 s.data.toList := ⟨_, rfl⟩
  rw [← hR]
  have hPL := pieces_len [] 46 s.data.toList
  have hcl := List.count_le_length (l := s.data.toList) (a := 46)
  obtain ⟨P, hP⟩ : ∃ P, P = pieces [] 46 s.data.toList := ⟨_, rfl⟩
  have HSZ : Hid (∀ k (h : k < P.length), (mkB P[k]).size ≤ 65537) := hid (fun k h => by subst hP; have := pcs_size 46 s.data.toList h; omega)
  unfold read4 at hR
  rw [← hP] at hR HSP hPL
  have HR := hid hR
  have hmap : (P.map mkB).length = P.length := List.length_map _
  have hPle : P.length ≤ 65537 := by omega
  have hPpos : 0 < P.length := by omega
  clear hR hP hv hPL hcl
  go_enter Tryz.func236, Tryz.ntmps236
  go_wp2_with fail
  refine (HSP.out _ (by first | exact Mod.refl _ _ | exact (Mod.refl _ _).alloc _)).mono ?_
  rintro e w1 ⟨rfl, hst, n1⟩
  simp only [World.size_alloc] at hst
  have HS1 := hid hst
  have N1 : Hid (New w w1) := hid (by first | exact n1 | exact ((Mod.refl _ _).alloc _).trans n1)
  clear hst n1 HSP
  rw [hmap]
  go_wp2_with fail
  go_loopw [11, 5] (fun i o wr => ∃ (k : Nat) (v : Value) (N : List Nat), i = .int .i64 k ∧ v = o ∧ k ≤ P.length ∧ numsA 10 255 (P.take k) = some N ∧ N.length = k ∧ OwnY wr w1.heap.size v (N.map UInt8.ofNat) ∧ New w1 wr) (fun i _ _ => P.length - (intOf i).toNat)
  case atStart => exact ⟨0, _, [], rfl, rfl, by omega, by rw [List.take_zero]; rfl, rfl, OwnY.nil _ _, Mod.refl _ _⟩
  case round =>
    obtain ⟨k, v, N, rfl, rfl, hk, hnum, hNk, ho, hn⟩ := hrel
    have HO := hid ho; have HN := hid hn; have HNUM := hid hnum
    clear ho hn hnum
    by_cases hlt : k < P.length
    · have hltI : (k : Int) < (P.length : Int) := by omega
      have HST := hid (HS1.out.new HN.out)
      obtain ⟨bb, oo, hbe, hbb, hcc⟩ := HST.out.get (by rw [hmap]; omega)
      injection hbe with hbe
      injection hbe with hb1 hb2
      subst hb1 hb2
      have g0 := hcc k (by rw [hmap]; exact hlt)
      rw [show (P.map mkB)[k]'(by rw [hmap]; exact hlt) = mkB P[k] from List.getElem_map _] at g0
      have hxs := HSZ.out k hlt
      have HNB := hid (fun W (n : New wr W) => number_any 10 255 (.inl rfl) (by omega) (mkB P[k]) W (by omega) (HV.out W ((N1.out.trans HN.out).trans n)))
      have HALL := hid (take_all hlt)
      have HTK := hid (take_next hlt)
      rw [show (mkB P[k]).data.toList = P[k] from rfl] at HNB
      obtain ⟨X, hX⟩ : ∃ X, X = P[k] := ⟨_, rfl⟩
      rw [← hX] at g0 hxs HNB HALL HTK
      rw [Nat.zero_add] at g0
      clear hcc hX
      cases hna : numA 10 255 X with
      | none =>
        rw [hna] at HNB
        have HRN : Hid (R = none) := hid (by rw [HR.out, HALL.out, numsA_bad HNUM.out hna])
        clear hna
        go_wp2_with fail
        refine (HNB.out _ (Mod.refl _ _)).mono ?_
        rintro e w3 ⟨rfl, n3⟩
        have N3 := hid ((N1.out.trans HN.out).trans n3)
        clear n3
        unfold numE
        go_wp2
        exact ⟨rfl, by rw [HRN.out]; rfl, N3.out⟩
      | some u =>
        rw [hna] at HNB
        have HNN := hid (numsA_next HNUM.out hna)
        rw [← HTK.out] at HNN
        have hu := (numA_some hna).1
        have hw : IntKind.u8.wrap (u : Int) = ((UInt8.ofNat u).toNat : Int) := by
          rw [IntWalk.u8_in _ (by omega), UInt8.toNat_ofNat']
          omega
        obtain ⟨D, hD⟩ : ∃ D, D = UInt8.ofNat u := ⟨_, rfl⟩
        rw [← hD] at hw
        have HD := hid hD
        clear hna hD
        go_wp2_with fail
        refine (HNB.out _ (Mod.refl _ _)).mono ?_
        rintro e w3 ⟨rfl, n3⟩
        have N3 := hid (HN.out.trans n3)
        have HO3 := hid (HO.out.new n3)
        have hs3 := n3.size
        have hs2 := HN.out.size
        clear n3
        unfold numE
        go_wp2_with (at_builtin; refine wpList_append_own_at _ rfl _ _ 42 rfl w1.heap.size 5 i0 _ 1 1 Tryz.underlying42 hi hz0 hz1 hz2 rfl (by decide) _ (N.map UInt8.ofNat).length (byV (N.map UInt8.ofNat)) rfl ?ow ⟨w3.heap.size, 0, none⟩ 1 1 [.int .u8 (D.toNat : Int)] rfl rfl ?hn ?h1 ?h63 ?hby ?hba ?_)
        case ow => exact HO3.out.new ((Mod.refl _ _).alloc _)
        case hn =>
          intro j u hj
          rw [add_none]
          match j, hj with
          | 0, hj => simp at hj; subst hj; exact (Blk.newAt (by simp)).cellv 0 rfl
        case h1 => intro u hu; simp at hu; subst hu; rfl
        case h63 => rw [List.length_map]; unfold maxLen; omega
        case hby => rw [List.length_map]; omega
        case hba => simp; omega
        intro o' w' r' g' _ _
        have r2 : w'.ownsRow w1.heap.size 5 1 o' ((N.map UInt8.ofNat).length + [D].length) (byV (N.map UInt8.ofNat) ++ byV [D]) := by rw [List.length_map, hNk]; exact r'
        have O' := hid (ownY_of (l := N.map UInt8.ofNat) [D] r2)
        have N' := hid (new_grownY (HO3.out.new ((Mod.refl _ _).alloc _)) (Nat.le_refl _) (N3.out.alloc _) g')
        clear r' g'
        go_wp2_with fail
        exact ⟨⟨k + 1, _, N ++ [u], by simp, rfl, by omega, HNN.out, by simp; omega, by rw [List.map_append, List.map_cons, List.map_nil, ← HD.out]; exact O'.out, N'.out⟩, by simp [intOf]; omega⟩
    · obtain rfl : k = P.length := by omega
      have HNA := hid (show numsA 10 255 P = some N by rw [← HNUM.out, List.take_length])
      have hNl : (N.map UInt8.ofNat).length = P.length := by rw [List.length_map, hNk]
      obtain ⟨form, hform⟩ : ∃ x, x = HO.out.form := ⟨_, rfl⟩
      clear hform
      have HT := hid (ownY_text HO.out)
      have hcv := HT.out
      rcases form with ⟨rfl, hnil⟩ | ⟨g, cap, rfl, hg1, hg2, hg3⟩
      · have : P.length = 0 := by rw [← hNl, hnil]; rfl
        omega
      · rw [hNl] at hcv
        rw [hNl]
        by_cases h4 : P.length = 4
        · have hd : ((P.length : Int) == 4) = true := by rw [beq_iff_eq]; omega
          have HRX : Hid (R = some (N.map UInt8.ofNat)) := hid (by rw [HR.out, HNA.out]; simp only; rw [if_pos (by omega)])
          rw [h4] at hcv
          go_wp2_with fail
          refine (aneed_yes 2 _).mono ?_
          rintro e w3 ⟨rfl, rfl⟩
          go_wp2
          go_ret
          exact ⟨by rw [HRX.out]; rfl, N1.out.trans HN.out⟩
        · have hd : ((P.length : Int) == 4) = false := by rw [beq_eq_false_iff_ne]; omega
          have HRX : Hid (R = none) := hid (by rw [HR.out, HNA.out]; simp only; rw [if_neg (by omega)])
          go_wp2_with fail
          refine (aneed_no 2 _).mono ?_
          rintro e w3 ⟨rfl, rfl⟩
          go_wp2
          exact ⟨rfl, by rw [HRX.out]; rfl, N1.out.trans HN.out⟩
end Go.Proofs.YtbgmkplpolgebaaGreatDoor
