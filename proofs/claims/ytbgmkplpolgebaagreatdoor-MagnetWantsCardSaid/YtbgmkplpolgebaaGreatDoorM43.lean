/-
  Several texts in one, in their build order. The walk of the law MagnetWants. Condition: the magnets lie as told; the library's variable holds a number. The end of the law MagnetWants: the own map. Conditions as told. The law MagnetWants from Join on. Conditions as told.
-/
import Derived.Test.YtbgmkplpolgebaaGreatDoorM35
import Derived.Test.YtbgmkplpolgebaaGreatDoorM41
import Derived.Test.YtbgmkplpolgebaaGreatDoorM42
namespace Go.Proofs.YtbgmkplpolgebaaGreatDoor
set_option linter.unusedSimpArgs false
set_option linter.unusedVariables false
open Go.RowKit Go.Shelf Go.MapKept

def wresL : Except Int (List Nat) → List Nat
  | .error _ => []
  | .ok N => N
def wresE : Except Int (List Nat) → Int
  | .error k => k
  | .ok _ => 0
theorem wantQ_any {X : Except Int (List Nat)} {e : Ending} {w' : World} (h : wantQ X e w') : ∃ a c, e = .returned (.tuple #[.slice a (wresL X).length c, .int .i64 (wresE X)]) ∧ NmAt w' a c (wresL X) := by
  cases X with
  | error k => exact ⟨none, 0, wantQ_no h, ⟨by simp [wresL], by unfold maxLen; omega, .inl rfl⟩⟩
  | ok N =>
    obtain ⟨a, c, h1, h2, -⟩ := wantQ_yes h
    exact ⟨a, c, h1, h2⟩
theorem wantsP_le {m : MgV} {f : Int} : (wresL (wantsP m f)).length ≤ 40 := by
  unfold wantsP
  split
  · simp [wresL]
  · split
    · simp [wresL]
    · have := wantL_le m f.toNat
      simp only [wresL]
      omega
theorem key_intW (i : Int) : IsKey (.int .i64) (.int .i64 i) := by simp [IsKey]
/-- The entries of the law's map. -/
def setV (K : List Nat) : List (Value × Value) := K.map (fun n => (.int .i64 ((n : Nat) : Int), .bool true))
theorem setV_at {K : List Nat} {x : Nat} (h : x ∈ K) : ∃ i, (setV K)[i]? = some (.int .i64 (x : Int), .bool true) ∧ (setV K).set i (.int .i64 (x : Int), .bool true) = setV K := by
  obtain ⟨i, hi, he⟩ := List.mem_iff_getElem.1 h
  have : (setV K)[i]? = some (.int .i64 (x : Int), .bool true) := by
    unfold setV
    rw [List.getElem?_map, List.getElem?_eq_getElem hi, he]
    rfl
  refine ⟨i, this, ?_⟩
  refine List.ext_getElem? (fun j => ?_)
  rw [List.getElem?_set]
  split
  · next q =>
    subst q
    rw [this]
    split
    · rfl
    · next q => exact absurd (List.getElem?_eq_some_iff.1 this).1 q
  · rfl
theorem setV_no {K : List Nat} {x : Nat} (h : x ∉ K) : ∀ y ∈ setV K, y.1 ≠ .int .i64 (x : Int) := by
  intro y hy q
  unfold setV at hy
  obtain ⟨n, hn, rfl⟩ := List.mem_map.1 hy
  simp only [Value.int.injEq, true_and] at q
  have : n = x := by omega
  exact h (this ▸ hn)
theorem setV_put (K : List Nat) (x : Nat) : setV K ++ [(.int .i64 (x : Int), .bool true)] = setV (K ++ [x]) := by unfold setV; simp
theorem setV_len (K : List Nat) : (setV K).length = K.length := by unfold setV; simp
def SetAt (w : World) (M : Nat) (K : List Nat) : Prop := MapL w M (.int .i64) (setV K)
theorem SetAt.put {w : World} {M : Nat} {L : List Nat} {x : Nat} (h : SetAt w M (onceL L)) : ∃ w', (Instr.mapUpdate 38 (.map (some M)) (.int .i64 (x : Int)) (.bool true)).run Tryz.prog w = .ok () w' ∧ SetAt w' M (onceL (L ++ [x])) ∧ Mod (fun q => q = M) w w' := by
  rw [onceL_snoc]
  unfold onceP
  by_cases hx : x ∈ onceL L
  · rw [if_pos hx]
    obtain ⟨i, h1, h2⟩ := setV_at hx
    obtain ⟨w', g1, g2, g3⟩ := MapL.put_at (P := Tryz.prog) h Tryz.underlying38 Tryz.underlying3 (key_intW x) h1 (.bool true)
    exact ⟨w', g1, by rw [h2] at g2; exact g2, g3⟩
  · rw [if_neg hx]
    obtain ⟨w', g1, g2, g3⟩ := MapL.put_no (P := Tryz.prog) h Tryz.underlying38 Tryz.underlying3 (key_intW x) (setV_no hx) (.bool true)
    exact ⟨w', g1, by rw [setV_put] at g2; exact g2, g3⟩
theorem SetAt.yes {w : World} {M : Nat} {K : List Nat} (h : SetAt w M K) {i : Nat} (hi : i ∈ K) : (Instr.lookup 38 (.map (some M)) (.int .i64 (i : Int)) false).run Tryz.prog w = .ok (.bool true) w := by
  obtain ⟨j, hj, -⟩ := setV_at hi
  exact MapL.look_at h Tryz.underlying38 Tryz.underlying3 (key_intW i) (i := j) (v := .bool true) hj false
theorem SetAt.len {w : World} {M : Nat} {K : List Nat} (h : SetAt w M K) (ty : TypeId) : (Builtin.len_ #[38] ty #[.map (some M)]).run Tryz.prog w = .ok (.int .i64 K.length) w := by
  have := MapL.len (P := Tryz.prog) h Tryz.underlying38 ty
  rw [setV_len] at this
  exact this
theorem SetAt.new {w w' : World} {M : Nat} {K : List Nat} (h : SetAt w M K) (n : New w w') : SetAt w' M K := MapL.new h n
def jresW : Except Int MgV → MgV
  | .error _ => mg0
  | .ok m => m
def jerrW : Except Int MgV → Int
  | .error k => k
  | .ok _ => 0
theorem joinW_any {X : Except Int MgV} {e : Ending} {w' : World} (h : joinQ X e w') : ∃ P, e = .returned (.tuple #[magVal (jresW X) P, .int .i64 (jerrW X)]) ∧ MagAt w' (jresW X) P := by
  cases X with
  | error k => exact ⟨⟨none, 0, none, 0, none, 0, none, 0⟩, joinQ_no h, MagAt.zero _⟩
  | ok m =>
    obtain ⟨P, h1, h2, -⟩ := joinQ_yes h
    exact ⟨P, h1, h2⟩
theorem joinP_ok {m n : MgV} (h : jerrW (joinP m n) = 0) : VOk m ∧ VOk n ∧ jresW (joinP m n) = joinV m n ∧ validMg (joinV m n) = true := by
  unfold joinP at h ⊢
  split
  · next q => rw [if_pos q] at h; cases h
  · next q =>
    rw [if_neg q] at h
    split
    · next q2 => rw [if_pos q2] at h; cases h
    · next q2 =>
      rw [if_neg q2] at h
      split
      · next q3 => rw [if_pos q3] at h; cases h
      · next q3 =>
        have hv : (validMg m && validMg n) = true := by
          cases hx : (validMg m && validMg n) with
          | true => rfl
          | false => exact absurd hx q
        rw [Bool.and_eq_true] at hv
        have hm := validMg_iff.1 hv.1
        have hn := validMg_iff.1 hv.2
        refine ⟨hm, hn, rfl, ?_⟩
        rw [join_valid hm hn, decide_eq_true (by omega), decide_eq_true (by omega), decide_eq_true (by omega)]
        rfl
theorem wantsP_ok {m : MgV} {f : Int} (h : wresE (wantsP m f) = 0) : 1 ≤ f ∧ f ≤ 40 ∧ wantsP m f = .ok (wantL m f.toNat) := by
  unfold wantsP at h ⊢
  split
  · next q => rw [if_pos q] at h; cases h
  · next q =>
    rw [if_neg q] at h
    split
    · next q2 => rw [if_pos q2] at h; cases h
    · next q2 => exact ⟨by omega, by omega, rfl⟩
/-- What the law asks of joined magnets. -/
theorem law_wants {m n : MgV} {f : Int} (hc : jerrW (joinP m n) = 0) (he : wresE (wantsP m f) = 0) (hh : wresE (wantsP n f) = 0) :
    wresE (wantsP (jresW (joinP m n)) f) = 0 ∧ (onceL (wresL (wantsP m f) ++ wresL (wantsP n f))).length = (wresL (wantsP (jresW (joinP m n)) f)).length ∧
      ∀ i, i ∈ wresL (wantsP (jresW (joinP m n)) f) → i ∈ onceL (wresL (wantsP m f) ++ wresL (wantsP n f)) := by
  obtain ⟨hm, hn, hj, hv⟩ := joinP_ok hc
  obtain ⟨f1, f2, e1⟩ := wantsP_ok he
  obtain ⟨-, -, e2⟩ := wantsP_ok hh
  have e3 : wantsP (joinV m n) f = .ok (wantL (joinV m n) f.toNat) := by
    unfold wantsP
    rw [if_neg (by rw [hv]; decide), if_neg (by omega)]
  rw [hj, e1, e2, e3]
  refine ⟨rfl, want_count hm hn _, fun i hi => ?_⟩
  rw [mem_onceL, List.mem_append]
  exact (want_join hm hn _ _).1 hi
theorem OwnC.fresh (w : World) (base : Nat) (hb : base ≤ w.heap.size) : OwnC (w.alloc (.cells #[] 3)) 3 base (.slice (some ⟨w.heap.size, 0, none⟩) 0 0) [] :=
  ⟨rfl, .inr ⟨w.heap.size, 0, #[], rfl, hb, Blk.new w #[] 3, Nat.le_refl _, by simp [maxLen], rfl, rfl⟩⟩
theorem wantG_any {X : Except Int (List Nat)} {e : Ending} {w' : World} (hx : ∀ k, X = .error k → k ≠ 0) (h : wantG X e w') : ∃ a c, e = .returned (.tuple #[.slice a (wresL X).length c, .int .i64 (wresE X)]) ∧ NmAt w' a c (wresL X) ∧ (wresE X = 0 → ∃ g, a = some ⟨g, 0, none⟩) := by
  cases X with
  | error k =>
    exact ⟨none, 0, wantG_no h, ⟨by simp [wresL], by unfold maxLen; omega, .inl rfl⟩, fun q => absurd q (hx k rfl)⟩
  | ok N =>
    obtain ⟨g, c, h1, h2⟩ := wantG_yes h
    exact ⟨_, c, h1, h2, fun _ => ⟨g, rfl⟩⟩
theorem wantsP_err {m : MgV} {f k : Int} (h : wantsP m f = .error k) : k ≠ 0 := by
  unfold wantsP at h
  split at h
  · cases h; decide
  · split at h
    · cases h; decide
    · cases h
theorem NmAt.news {w : World} {g c : Nat} {N : List Nat} (h : NmAt w (some ⟨g, 0, none⟩) c N) : ∀ (j : Nat) (u : Value), (numV N)[j]? = some u → w.cell? ((⟨g, 0, none⟩ : Addr).add j) = some u := by
  intro j u hj
  unfold numV at hj
  rw [List.getElem?_map, Option.map_eq_some_iff] at hj
  obtain ⟨x, hx, rfl⟩ := hj
  obtain ⟨hl, he⟩ := List.getElem?_eq_some_iff.1 hx
  rcases h.at' with q | ⟨b, e, hb, hc⟩
  · rw [q] at hl
    simp at hl
  · injection e with e
    injection e with e1 e2
    subst e1
    have := hc j hl
    rw [he] at this
    rw [add_none, Nat.zero_add]
    exact this
theorem numV_len (N : List Nat) : (numV N).length = N.length := by unfold numV; simp
theorem numV_app (A B : List Nat) : numV A ++ numV B = numV (A ++ B) := by unfold numV; simp
theorem numV_one (N : List Nat) : ∀ u ∈ numV N, u.oneCell' = true := by
  intro u hu
  unfold numV at hu
  obtain ⟨x, -, rfl⟩ := List.mem_map.1 hu
  rfl
end Go.Proofs.YtbgmkplpolgebaaGreatDoor

namespace Go.Proofs.YtbgmkplpolgebaaGreatDoor
set_option linter.unusedSimpArgs false
set_option linter.unusedVariables false
open Go.RowKit Go.Shelf Go.MapKept

noncomputable def wcodeA : Code := match Tryz.f5.body with
  | some (.seq _ (.seq _ (.seq _ (.seq _ (.seq _ (.seq _ c)))))) => c
  | _ => .skip
noncomputable def wcodeB : Code := match wcodeA with
  | .seq _ (.seq _ (.seq _ (.seq _ c))) => c
  | _ => .skip
theorem OwnC.nums2 {w : World} {base : Nat} {v : Value} {N : List Nat} (h : OwnC w 3 base v (numV N)) : ∃ a c, v = .slice a N.length c ∧ (N.length = 0 ∨ ∃ g, a = some ⟨g, 0, none⟩ ∧ base ≤ g ∧ ∀ (i : Nat) (hi : i < N.length), w.cell? ⟨g, i, none⟩ = some (.int .i64 ((N[i] : Nat) : Int))) := by
  rcases Nat.eq_zero_or_pos N.length with q | q
  · obtain ⟨a, c, e, -, -⟩ := h.nums
    exact ⟨a, c, e, .inl q⟩
  · obtain ⟨g, c, cs, rfl, h1, h2, h3, h4, h5⟩ := OwnC.blkI h q
    exact ⟨_, c, rfl, .inr ⟨g, rfl, h3, fun i hi => h4.cellv i (h5 i hi)⟩⟩
theorem own_num {w : World} {base n : Nat} {v : Value} {N : List Nat} {cs : List Value} (h : w.ownsRow base 3 1 v n cs) (hn : n = N.length) (hc : cs = numV N) : OwnC w 3 base v (numV N) := by
  unfold OwnC
  rw [numV_len, ← hn, ← hc]
  exact h
set_option maxRecDepth 100000 in
set_option maxHeartbeats 16000000 in
theorem wtailB (N1 N2 D : List Nat) (b1 b3 : Nat) (a4 : Option Addr) (k1 k3 k4 : Nat) (w W : World)
    (ha : ∀ (W' : World), New w W' → Calls Tryz.prog 7 #[] W' fun e w' => e = .returned (.bool true) ∧ New W' w')
    (hw : New w W) (h1 : NmAt W (some ⟨b1, 0, none⟩) k1 N1) (h3 : NmAt W (some ⟨b3, 0, none⟩) k3 N2) (hd : NmAt W a4 k4 D)
    (l1 : N1.length ≤ 40) (l2 : N2.length ≤ 40) (l3 : D.length ≤ 40) (hlen : (onceL (N1 ++ N2)).length = D.length) (hmem : ∀ i, i ∈ D → i ∈ onceL (N1 ++ N2))
    (x0 x1 x2 x3 x4 x5 x6 x8 x9 x10 x11 x12 x13 x17 x18 x19 x20 x21 x22 x23 x24 x25 x26 x27 x28 x29 x30 x31 x32 x33 x34 x35 x36 x37 x38 x39 x40 x41 x42 x43 x44 x45 x46 x47 x48 x49 x50 x51 x52 x53 x54 x55 x56 x57 x58 x59 x60 x61 x62 x63 x64 x65 x66 x67 x68 x69 x70 x71 x72 x73 x74 x75 x76 x77 x78 x79 x80 x81 x82 x83 x84 x85 x86 x87 x88 x89 x90 x91 x92 x93 x94 x95 x96 x97 x98 x99 x100 x101 x102 x103 x104 x105 x106 x107 x108 x109 x110 x111 x112 x113 x114 x115 x116 x117 x118 x119 x120 x121 x122 x123 x124 x125 x126 x127 x128 x129 x130 x131 : Value) :
    wcodeB.wp Tryz.prog (bodyPost Tryz.prog Tryz.f5 (fun e w' => e = .returned (.bool true) ∧ New w w')) ⟨#[x0, x1, x2, x3, x4, x5, x6, .slice (some ⟨b1, 0, none⟩) N1.length k1, x8, x9, x10, x11, x12, x13, .slice (some ⟨b3, 0, none⟩) N2.length k3, .int .i64 0, .slice a4 D.length k4, x17, x18, x19, x20, x21, x22, x23, x24, x25, x26, x27, x28, x29, x30, x31, x32, x33, x34, x35, x36, x37, x38, x39, x40, x41, x42, x43, x44, x45, x46, x47, x48, x49, x50, x51, x52, x53, x54, x55, x56, x57, x58, x59, x60, x61, x62, x63, x64, x65, x66, x67, x68, x69, x70, x71, x72, x73, x74, x75, x76, x77, x78, x79, x80, x81, x82, x83, x84, x85, x86, x87, x88, x89, x90, x91, x92, x93, x94, x95, x96, x97, x98, x99, x100, x101, x102, x103, x104, x105, x106, x107, x108, x109, x110, x111, x112, x113, x114, x115, x116, x117, x118, x119, x120, x121, x122, x123, x124, x125, x126, x127, x128, x129, x130, x131], []⟩ W := by
  obtain ⟨i0, hi, hz0, hz1, hz2⟩ := info_parts info_intB
  have HA := hid ha; have HW := hid hw; have H1 := hid h1; have H3 := hid h3; have HD := hid hd; have HLEN := hid hlen; have HMEM := hid hmem
  have HM0 := hid (show SetAt (W.alloc (.map #[] 0)) W.heap.size (onceL []) from MapL.made W (.int .i64) rfl)
  have HF0 : Hid (OwnC ((W.alloc (.map #[] 0)).alloc (.cells #[] 3)) 3 (W.heap.size + 1) (.slice (some ⟨W.heap.size + 1, 0, none⟩) 0 0) []) := hid (by
    have q := OwnC.fresh (W.alloc (.map #[] 0)) (W.heap.size + 1) (by simp)
    rw [show (W.alloc (.map #[] 0)).heap.size = W.heap.size + 1 by simp] at q
    exact q)
  have hl0 : (numV N1).length = N1.length * 1 := by rw [numV_len, Nat.mul_one]
  have hl1 : (numV N2).length = N2.length * 1 := by rw [numV_len, Nat.mul_one]
  have HL01 := hid (And.intro hl0 hl1)
  have HA0 := hid (show New W (W.alloc (.map #[] 0)) from (Mod.refl _ _).alloc _)
  have HA1 := hid (show New (W.alloc (.map #[] 0)) ((W.alloc (.map #[] 0)).alloc (.cells #[] 3)) from (Mod.refl _ _).alloc _)
  clear ha hw h1 h3 hd hlen hmem hl0 hl1
  generalize hF : Tryz.f5 = F
  delta wcodeB wcodeA
  dsimp only [Tryz.f5]
  subst hF
  have hmm := @run_makeMap Tryz.prog
  go_wp2_with (first | (at_builtin; refine wpList_append_own_at _ rfl _ _ 35 rfl (W.heap.size + 1) 3 i0 _ 1 8 Tryz.underlying35 hi hz0 hz1 hz2 rfl (by decide) (.slice (some ⟨W.heap.size + 1, 0, none⟩) 0 0) 0 [] rfl ?ow ⟨b1, 0, none⟩ N1.length k1 (numV N1) rfl ?hl ?hn ?h1 ?h63 ?hby ?hba ?_) | fail)
  case ow => exact HF0.out
  case hl => exact HL01.out.1
  case hn => exact (H1.out.new (HA0.out.trans HA1.out)).news
  case h1 => exact numV_one N1
  case h63 => unfold maxLen; omega
  case hby => omega
  case hba => simp
  intro o5 w5 r5 g5 _ _
  have O5 := hid (own_num r5 (N := N1) (by simp) (by simp))
  have N5 : Hid (New (W.alloc (.map #[] 0)) w5) := hid (newGrown HA1.out g5 (fun j hj => by
    simp only [Value.ownBlock, Option.some.injEq] at hj
    subst hj
    simp))
  clear r5 g5 HA1 HF0
  go_wp2_with (first | (at_builtin; refine wpList_append_own_at _ rfl _ _ 35 rfl (W.heap.size + 1) 3 i0 _ 1 8 Tryz.underlying35 hi hz0 hz1 hz2 rfl (by decide) o5 N1.length (numV N1) rfl ?ow ⟨b3, 0, none⟩ N2.length k3 (numV N2) rfl ?hl ?hn ?h1 ?h63 ?hby ?hba ?_) | fail)
  case ow =>
    have q := O5.out
    unfold OwnC at q
    rw [numV_len] at q
    exact q
  case hl => exact HL01.out.2
  case hn => exact (H3.out.new (HA0.out.trans N5.out)).news
  case h1 => exact numV_one N2
  case h63 => unfold maxLen; omega
  case hby => omega
  case hba => have := N5.out.size; simpa using this
  intro o6 w6 r6 g6 _ _
  have O6 := hid (own_num r6 (N := N1 ++ N2) (by rw [List.length_append]) (numV_app N1 N2))
  have N6 : Hid (New (W.alloc (.map #[] 0)) w6) := hid (newGrown N5.out g6 (fun j hj => by
    obtain ⟨_, _, -, hb, -⟩ := O5.out.form
    have := hb j hj
    simpa using this))
  have hLl : (N1 ++ N2).length ≤ 80 := by rw [List.length_append]; omega
  obtain ⟨L, hL⟩ : ∃ L, L = N1 ++ N2 := ⟨_, rfl⟩
  rw [← hL] at O6 HLEN HMEM hLl
  have HM6 := hid (HM0.out.new N6.out)
  have N06 := hid (HA0.out.trans N6.out)
  obtain ⟨a6, c6, rfl, hat⟩ := O6.out.nums2
  have HAT := hid hat
  clear r6 g6 hL O5 N5 O6 HL01 H1 H3 HM0 HA0 hat hi hz0 hz1 hz2
  go_wp2_with fail
  go_loopw [104] (fun i wr => ∃ k : Nat, i = .int .i64 k ∧ k ≤ L.length ∧ SetAt wr W.heap.size (onceL (L.take k)) ∧ Mod (fun q => q = W.heap.size) w6 wr) (fun i _ => L.length - (intOf i).toNat)
  case atStart => exact ⟨0, rfl, by omega, HM6.out, Mod.refl _ _⟩
  case round =>
    obtain ⟨k, rfl, hk, hS, hm⟩ := hrel
    by_cases hlt : k < L.length
    · have hltI : (k : Int) < (L.length : Int) := by omega
      rcases HAT.out with q | ⟨g, rfl, hg, hc⟩
      · omega
      have g0 := hm.cellv (hc k hlt) (by show ¬ g = W.heap.size; omega)
      obtain ⟨wm, hup, hS2, hm2⟩ := SetAt.put (x := L[k]) hS
      rw [← lst_next hlt] at hS2
      have HS2 := hid hS2; have HM2 := hid (hm.trans hm2)
      obtain ⟨x, hx⟩ : ∃ x, x = L[k] := ⟨_, rfl⟩
      rw [← hx] at g0 hup
      clear hc hS hm hS2 hm2 hx
      go_wp2
      exact ⟨⟨k + 1, by simp, by omega, HS2.out, HM2.out⟩, by simp [intOf]; omega⟩
    · obtain rfl : k = L.length := by omega
      rw [List.take_length] at hS
      have HS := hid hS
      have hml := fun ty => hS.len ty
      rw [HLEN.out] at hml
      have NWr : New W wr := N06.out.trans' hm (fun j q1 q2 => by omega)
      have HW7 := hid (HW.out.trans NWr)
      have HD7 := hid (HD.out.new NWr)
      have hdd : ((D.length : Int) != (D.length : Int)) = false := by rw [bne, beq_self_eq_true]; rfl
      clear hS hm hlt HM6 HAT NWr HD HW N06
      go_wp2_with fail
      go_loopw [122] (fun i wx => ∃ k : Nat, i = .int .i64 k ∧ k ≤ D.length ∧ wx = wr) (fun i _ => D.length - (intOf i).toNat)
      case atStart => exact ⟨0, rfl, by omega, rfl⟩
      case round =>
        obtain ⟨j, rfl, hj, rfl⟩ := hrel
        by_cases hlt : j < D.length
        · have hltI : (j : Int) < (D.length : Int) := by omega
          rcases HD7.out.at' with q | ⟨g, rfl, -, hc⟩
          · rw [q] at hlt; simp at hlt
          have g0 := hc j hlt
          have hlk := HS.out.yes (HMEM.out _ (List.getElem_mem hlt))
          obtain ⟨x, hx⟩ : ∃ x, x = D[j] := ⟨_, rfl⟩
          rw [← hx] at g0 hlk
          clear hc hx hml
          go_wp2
          exact ⟨⟨j + 1, by simp, by omega, by first | trivial | rfl⟩, by simp [intOf]; omega⟩
        · obtain rfl : j = D.length := by omega
          clear hml
          go_wp2_with fail
          refine (HA.out _ HW7.out).mono ?_
          rintro e w9 ⟨rfl, n9⟩
          have NF := hid (HW7.out.trans n9)
          clear n9
          go_wp2
          go_ret
          exact ⟨rfl, NF.out⟩
end Go.Proofs.YtbgmkplpolgebaaGreatDoor

namespace Go.Proofs.YtbgmkplpolgebaaGreatDoor
set_option linter.unusedSimpArgs false
set_option linter.unusedVariables false
open Go.RowKit Go.Shelf Go.MapKept

set_option maxRecDepth 100000 in
set_option maxHeartbeats 16000000 in
theorem wtailA (m n : MgV) (p q : MgP) (f : Int) (w W : World) (h : MagAt w m p) (k : MagAt w n q) (hp : Tidy p) (hq : Tidy q)
    (ha : ∀ (W' : World), New w W' → Calls Tryz.prog 7 #[] W' fun e w' => e = .returned (.bool true) ∧ New W' w')
    (hw : New w W) (hA : Blk W w.heap.size (magRow m p) 27) (hB : Blk W (w.heap.size + 1) (magRow n q) 27) (a1 : Option Addr) (k1 : Nat)
    (h1 : NmAt W a1 k1 (wresL (wantsP m f))) (g1 : wresE (wantsP m f) = 0 → ∃ g, a1 = some ⟨g, 0, none⟩)
    (x0 x1 x5 x6 x9 x10 x11 x12 x13 x14 x15 x16 x17 x18 x19 x20 x21 x22 x23 x24 x25 x26 x27 x28 x29 x30 x31 x32 x33 x34 x35 x36 x37 x38 x39 x40 x41 x42 x43 x44 x45 x46 x47 x48 x49 x50 x51 x52 x53 x54 x55 x56 x57 x58 x59 x60 x61 x62 x63 x64 x65 x66 x67 x68 x69 x70 x71 x72 x73 x74 x75 x76 x77 x78 x79 x80 x81 x82 x83 x84 x85 x86 x87 x88 x89 x90 x91 x92 x93 x94 x95 x96 x97 x98 x99 x100 x101 x102 x103 x104 x105 x106 x107 x108 x109 x110 x111 x112 x113 x114 x115 x116 x117 x118 x119 x120 x121 x122 x123 x124 x125 x126 x127 x128 x129 x130 x131 : Value) :
    wcodeA.wp Tryz.prog (bodyPost Tryz.prog Tryz.f5 (fun e w' => e = .returned (.bool true) ∧ New w w')) ⟨#[x0, x1, .int .i64 f, .pointer (some ⟨w.heap.size, 0, none⟩), .pointer (some ⟨w.heap.size + 1, 0, none⟩), x5, x6, .slice a1 (wresL (wantsP m f)).length k1, .int .i64 (wresE (wantsP m f)), x9, x10, x11, x12, x13, x14, x15, x16, x17, x18, x19, x20, x21, x22, x23, x24, x25, x26, x27, x28, x29, x30, x31, x32, x33, x34, x35, x36, x37, x38, x39, x40, x41, x42, x43, x44, x45, x46, x47, x48, x49, x50, x51, x52, x53, x54, x55, x56, x57, x58, x59, x60, x61, x62, x63, x64, x65, x66, x67, x68, x69, x70, x71, x72, x73, x74, x75, x76, x77, x78, x79, x80, x81, x82, x83, x84, x85, x86, x87, x88, x89, x90, x91, x92, x93, x94, x95, x96, x97, x98, x99, x100, x101, x102, x103, x104, x105, x106, x107, x108, x109, x110, x111, x112, x113, x114, x115, x116, x117, x118, x119, x120, x121, x122, x123, x124, x125, x126, x127, x128, x129, x130, x131], []⟩ W := by
  have HA := hid ha
  have HJ := hid (fun W (l : New w W) => mJoin_any m n p q W (h.new l) (k.new l) hp hq)
  have HWN := hid (fun W (l : New w W) => mWants_any n q f W (k.new l))
  have HLAW := hid (fun a b c => law_wants (m := m) (n := n) (f := f) a b c)
  have hl1 := wantsP_le (m := m) (f := f)
  have hl2 := wantsP_le (m := n) (f := f)
  obtain ⟨X, hX⟩ : ∃ X, X = joinP m n := ⟨_, rfl⟩
  rw [← hX] at HJ HLAW
  have HQJ := hid (fun (e : Ending) (w' : World) (h : joinQ X e w') => joinW_any h)
  obtain ⟨R, hR⟩ : ∃ R, R = jresW X := ⟨_, rfl⟩
  obtain ⟨cj, hcj⟩ : ∃ c, c = jerrW X := ⟨_, rfl⟩
  rw [← hR, ← hcj] at HLAW HQJ
  have HJW := hid (fun W P (h : MagAt W R P) => mWants_any R P f W h)
  have hl3 := wantsP_le (m := R) (f := f)
  obtain ⟨YM, hYM⟩ : ∃ Y, Y = wantsP m f := ⟨_, rfl⟩
  obtain ⟨YN, hYN⟩ : ∃ Y, Y = wantsP n f := ⟨_, rfl⟩
  obtain ⟨YR, hYR⟩ : ∃ Y, Y = wantsP R f := ⟨_, rfl⟩
  rw [← hYM] at HLAW hl1 h1 g1 ⊢
  rw [← hYN] at HWN HLAW hl2
  rw [← hYR] at HJW HLAW hl3
  have HQN := hid (fun (e : Ending) (w' : World) (h : wantG YN e w') => wantG_any (fun k e => wantsP_err (hYN ▸ e)) h)
  have HQD := hid (fun (e : Ending) (w' : World) (h : wantG YR e w') => wantG_any (fun k e => wantsP_err (hYR ▸ e)) h)
  obtain ⟨N1, hN1⟩ : ∃ N, N = wresL YM := ⟨_, rfl⟩
  obtain ⟨c1, hc1⟩ : ∃ N, N = wresE YM := ⟨_, rfl⟩
  obtain ⟨N2, hN2⟩ : ∃ N, N = wresL YN := ⟨_, rfl⟩
  obtain ⟨c2, hc2⟩ : ∃ N, N = wresE YN := ⟨_, rfl⟩
  obtain ⟨D, hD⟩ : ∃ N, N = wresL YR := ⟨_, rfl⟩
  obtain ⟨cd, hcd⟩ : ∃ N, N = wresE YR := ⟨_, rfl⟩
  rw [← hc1] at HLAW g1 ⊢
  rw [← hN1] at HLAW hl1 h1 ⊢
  rw [← hN2, ← hc2] at HQN HLAW
  rw [← hN2] at hl2
  rw [← hD, ← hcd] at HQD HLAW
  rw [← hD] at hl3
  have HL1 := hid hl1; have HL2 := hid hl2; have HL3 := hid hl3
  have A6 := hid hA; have B6 := hid hB; have NW6 := hid hw; have M6 := hid h1; have G1 := hid g1
  obtain ⟨ta, tc, pa, pc, sa, sc, oa, oc⟩ := p
  obtain ⟨tb, td, pb, pd, sb, sd, ob, od⟩ := q
  simp only [magVal, magRow] at HJ HWN HQJ HJW A6 B6
  clear h k hp hq ha hw hA hB h1 g1 hX hR hcj hYM hYN hYR hN1 hc1 hN2 hc2 hD hcd hl1 hl2 hl3
  generalize hF : Tryz.f5 = F
  delta wcodeA
  dsimp only [Tryz.f5]
  subst hF
  have c0 := A6.out.cellv 0 rfl; have c1 := A6.out.cellv 1 rfl; have c2 := A6.out.cellv 2 rfl; have c3 := A6.out.cellv 3 rfl; have c4 := A6.out.cellv 4 rfl; have c5 := A6.out.cellv 5 rfl; have c6 := A6.out.cellv 6 rfl; have cl := A6.out.lt
  have d0 := B6.out.cellv 0 rfl; have d1 := B6.out.cellv 1 rfl; have d2 := B6.out.cellv 2 rfl; have d3 := B6.out.cellv 3 rfl; have d4 := B6.out.cellv 4 rfl; have d5 := B6.out.cellv 5 rfl; have d6 := B6.out.cellv 6 rfl; have dl := B6.out.lt
  go_wp2_with fail
  refine (HJ.out _ NW6.out).mono ?_
  rintro e w7 ⟨hq7, n7⟩
  obtain ⟨⟨ua, uc, va, vc, xa, xc, ya, yc⟩, rfl, ha7⟩ := HQJ.out _ _ hq7
  have B7 := hid (New.blk n7 B6.out); have NW7 := hid (NW6.out.trans n7); have M7 := hid (M6.out.new n7); have J7 := hid ha7
  clear n7 hq7 ha7 A6 B6 NW6 M6 HJ HQJ
  clear c0 c1 c2 c3 c4 c5 c6 cl
  clear d0 d1 d2 d3 d4 d5 d6 dl
  have d0 := B7.out.cellv 0 rfl; have d1 := B7.out.cellv 1 rfl; have d2 := B7.out.cellv 2 rfl; have d3 := B7.out.cellv 3 rfl; have d4 := B7.out.cellv 4 rfl; have d5 := B7.out.cellv 5 rfl; have d6 := B7.out.cellv 6 rfl; have dl := B7.out.lt
  go_wp2_with fail
  refine name_worldA (p := fun W => Calls _ _ _ W _) (fun W8 hW => ?_)
  have B1x : Blk W8 w7.heap.size #[.string R.old, .string R.new, .string R.name, .slice ua R.tr.length uc, .slice va R.pe.length vc, .slice xa R.ws.length xc, .slice ya R.on.length yc] 27 := by
    rw [hW]
    apply Blk.row
    · repeat (first | with_reducible exact hW | (with_reducible apply Blk.newAt; (simp; done)) | with_reducible apply Blk.alloc | with_reducible apply Blk.drew | with_reducible apply Blk.drewN | with_reducible apply Blk.set | (with_reducible apply Blk.other; · first | (simp; done) | (simp; omega) | omega) | (with_reducible apply Blk.putObj; · first | (simp; done) | (simp; omega) | omega))
    · rfl
  have N1x : New w7 W8 := by
    rw [hW]
    repeat (first | with_reducible exact Mod.refl _ w7 | with_reducible refine Mod.alloc ?_ _ | with_reducible refine Mod.drew ?_ | with_reducible refine Mod.drewN ?_ _ | (with_reducible refine Mod.set ?_ _ _ (by first | exact .inl rfl | (right; omega) | (right; simp; done) | (right; simp; omega) | (left; omega) | (left; simp; done) | (left; simp; omega))) | (with_reducible refine Mod.putObj ?_ _ _ (by first | exact .inl rfl | (right; omega) | (right; simp; done) | (right; simp; omega) | (left; omega) | (left; simp; done) | (left; simp; omega))))
  have R8 := hid B1x; have L8 := hid N1x
  clear hW B1x N1x
  clear d0 d1 d2 d3 d4 d5 d6 dl
  refine (HWN.out _ (NW7.out.trans L8.out)).mono ?_
  rintro e w9 ⟨hq9, n9⟩
  obtain ⟨a3, k3, rfl, hn9, hg9⟩ := HQN.out _ _ hq9
  have N79 := hid (L8.out.trans n9)
  have NW9 := hid (NW7.out.trans N79.out); have M9 := hid (M7.out.new N79.out); have J9 := hid (J7.out.new N79.out); have R9 := hid (New.blk n9 R8.out); have K9 := hid hn9; have G3 := hid hg9
  clear n9 hq9 hn9 hg9 B7 NW7 M7 J7 R8 L8 N79 HWN HQN
  by_cases e1 : cj = 0
  · by_cases e2 : c1 = 0
    · by_cases e3 : c2 = 0
      · obtain ⟨hz, hlen, hmem⟩ := HLAW.out e1 e2 e3
        obtain ⟨b1, rfl⟩ := G1.out e2
        obtain ⟨b3, rfl⟩ := G3.out e3
        subst e1 e2 e3 hz
        have HLEN := hid hlen; have HMEM := hid hmem
        clear hlen hmem HLAW G1 G3
        go_upto_region 17 with fail
        go_cut [15, 16] (fun s15 s16 wx => s15 = .int .i64 0 ∧ (∃ a4 k4, s16 = .slice a4 D.length k4 ∧ NmAt wx a4 k4 D) ∧ New w9 wx)
        case first =>
          have c0 := R9.out.cellv 0 rfl; have c1 := R9.out.cellv 1 rfl; have c2 := R9.out.cellv 2 rfl; have c3 := R9.out.cellv 3 rfl; have c4 := R9.out.cellv 4 rfl; have c5 := R9.out.cellv 5 rfl; have c6 := R9.out.cellv 6 rfl; have cl := R9.out.lt
          go_wp2_with fail
          refine (HJW.out _ ⟨ua, uc, va, vc, xa, xc, ya, yc⟩ J9.out).mono ?_
          rintro e w10 ⟨hq10, n10⟩
          obtain ⟨a4, k4, rfl, hn10, -⟩ := HQD.out _ _ hq10
          have n10x := hid n10; have D10 := hid hn10
          clear n10 hq10 hn10
          clear c0 c1 c2 c3 c4 c5 c6 cl
          go_wp2
          go_meet
          exact ⟨rfl, ⟨a4, k4, rfl, D10.out⟩, n10x.out⟩
        case rest =>
          obtain ⟨rfl, ⟨a4, k4, rfl, hd⟩, n10⟩ := hcut
          go_step
          exact wtailB N1 N2 D b1 b3 a4 k1 k3 k4 w _ HA.out (NW9.out.trans n10) (M9.out.new n10) (K9.out.new n10) hd HL1.out HL2.out HL3.out HLEN.out HMEM.out _ _ _ _ _ _ _ _ _ _ _ _ _ _ _ _ _ _ _ _ _ _ _ _ _ _ _ _ _ _ _ _ _ _ _ _ _ _ _ _ _ _ _ _ _ _ _ _ _ _ _ _ _ _ _ _ _ _ _ _ _ _ _ _ _ _ _ _ _ _ _ _ _ _ _ _ _ _ _ _ _ _ _ _ _ _ _ _ _ _ _ _ _ _ _ _ _ _ _ _ _ _ _ _ _ _ _ _ _ _ _ _ _ _ _ _ _ _ _ _ _ _ _ _ _ _ _ _
      · have x3 : (c2 != 0) = true := by rw [bne, beq_eq_false_iff_ne.2 e3]; rfl
        have x2 : (c1 != 0) = false := by rw [e2]; rfl
        have x1 : (cj != 0) = false := by rw [e1]; rfl
        clear e1 e2 e3
        go_wp2_with fail
        refine (HA.out _ NW9.out).mono ?_
        rintro e w10 ⟨rfl, n10⟩
        have N10 := hid (NW9.out.trans n10)
        clear n10
        go_wp2
        go_ret
        exact ⟨rfl, N10.out⟩
    · have x2 : (c1 != 0) = true := by rw [bne, beq_eq_false_iff_ne.2 e2]; rfl
      have x1 : (cj != 0) = false := by rw [e1]; rfl
      clear e1 e2
      go_wp2_with fail
      refine (HA.out _ NW9.out).mono ?_
      rintro e w10 ⟨rfl, n10⟩
      have N10 := hid (NW9.out.trans n10)
      clear n10
      go_wp2
      go_ret
      exact ⟨rfl, N10.out⟩
  · have x1 : (cj != 0) = true := by rw [bne, beq_eq_false_iff_ne.2 e1]; rfl
    clear e1
    go_wp2_with fail
    refine (HA.out _ NW9.out).mono ?_
    rintro e w10 ⟨rfl, n10⟩
    have N10 := hid (NW9.out.trans n10)
    clear n10
    go_wp2
    go_ret
    exact ⟨rfl, N10.out⟩
end Go.Proofs.YtbgmkplpolgebaaGreatDoor
