/-
  The walks of Steps, of the program and of the reference. Conditions: as they stand.
-/
import Derived.Test.YtakglmdpaaiclaaLa
import Derived.Test.YtakglmdpaaiclaaStepsM
import Derived.Deep.OwnRows
import Derived.Deep.RegionHeld3
namespace Go.Proofs.Ytakglmdpaaiclaa
set_option linter.unusedSimpArgs false
set_option linter.unusedVariables false
open Go.RowKit Go.Deep


theorem pair_cells {w : World} {b : Nat} {x y : Value} {t : TypeId} (h : Blk w b #[x, y] t) : w.cell? ⟨b, 0, none⟩ = some x ∧ w.cell? ⟨b, 1, none⟩ = some y := ⟨h.cellv 0 rfl, h.cellv 1 rfl⟩

set_option maxRecDepth 100000 in
set_option maxHeartbeats 4000000 in
theorem steps1_any (B : Nat) (n : Nat) : ∀ (a b : Int) (w : World), (b - a).toNat ≤ n → 0 ≤ a → a ≤ 9000 → 0 ≤ b → b ≤ 9000 → Blk w B #[.func (.func 34) #[] #[.pointer (some ⟨B, 0, none⟩)]] 59 →
    Calls Try.prog 34 #[.agg #[.int .i64 a, .int .i64 b], .pointer (some ⟨B, 0, none⟩)] w fun e w' => e = .returned (.int .i64 (need (b - a).toNat)) ∧ New w w' := by
  induction n with
  | zero =>
    intro a b w hn h1 h2 h3 h4 hB
    have hs := need_small (b - a).toNat (by omega)
    have HS := hid hs
    have hlt : b - a < 16 := by omega
    clear hs hB
    go_enter Try.func34, Try.ntmps34
    go_wp2_with (go_at_call 35; refine (near_any _ _ _ (by omega)).mono ?_; rintro e w' ⟨rfl, rfl⟩)
    go_ret
    refine ⟨by rw [HS.out]; rfl, ?_⟩
    repeat (first | with_reducible exact Mod.refl _ _ | with_reducible refine Mod.alloc ?_ _ | with_reducible refine Mod.drew ?_ | with_reducible refine Mod.drewN ?_ _ | (with_reducible refine Mod.set ?_ _ _ (by first | exact .inl rfl | (right; omega) | (right; simp; done) | (right; simp; omega) | (left; omega) | (left; simp; done) | (left; simp; omega))) | (with_reducible refine Mod.putObj ?_ _ _ (by first | exact .inl rfl | (right; omega) | (right; simp; done) | (right; simp; omega) | (left; omega) | (left; simp; done) | (left; simp; omega))))
  | succ n ih =>
    intro a b w hn h1 h2 h3 h4 hB
    by_cases hlt : b - a < 16
    · have hs := need_small (b - a).toNat (by omega)
      have HS := hid hs
      clear hs hB ih
      go_enter Try.func34, Try.ntmps34
      go_wp2_with (go_at_call 35; refine (near_any _ _ _ (by omega)).mono ?_; rintro e w' ⟨rfl, rfl⟩)
      go_ret
      refine ⟨by rw [HS.out]; rfl, ?_⟩
      repeat (first | with_reducible exact Mod.refl _ _ | with_reducible refine Mod.alloc ?_ _ | with_reducible refine Mod.drew ?_ | with_reducible refine Mod.drewN ?_ _ | (with_reducible refine Mod.set ?_ _ _ (by first | exact .inl rfl | (right; omega) | (right; simp; done) | (right; simp; omega) | (left; omega) | (left; simp; done) | (left; simp; omega))) | (with_reducible refine Mod.putObj ?_ _ _ (by first | exact .inl rfl | (right; omega) | (right; simp; done) | (right; simp; omega) | (left; omega) | (left; simp; done) | (left; simp; omega))))
    · have hg := need_great (b - a).toNat (by omega)
      have e1 : (b - a).toNat - ((b - a).toNat + 1) / 2 = (b - (a + b + 1) / 2).toNat := by omega
      have e2 : ((b - a).toNat + 1) / 2 - 1 = ((a + b + 1) / 2 - 1 - a).toNat := by omega
      rw [e1, e2] at hg
      have b1 := need_bd (b - (a + b + 1) / 2).toNat (by omega)
      have b2 := need_bd ((a + b + 1) / 2 - 1 - a).toNat (by omega)
      have HG := hid hg
      have HB := hid hB
      have IH := hid ih
      have hBlt := hB.lt
      have c0 : w.cell? ⟨B, 0, none⟩ = some (.func (.func 34) #[] #[.pointer (some ⟨B, 0, none⟩)]) := hB.cellv 0 rfl
      clear hg hB ih e1 e2
      obtain ⟨x, hx⟩ : ∃ x, need (b - (a + b + 1) / 2).toNat = x := ⟨_, rfl⟩
      obtain ⟨y, hy⟩ : ∃ y, need ((a + b + 1) / 2 - 1 - a).toNat = y := ⟨_, rfl⟩
      have IH1 := hid (fun w hw => hx ▸ IH.out ((a + b + 1) / 2) b w (by omega) (by omega) (by omega) (by omega) (by omega) hw)
      have IH2 := hid (fun w hw => hy ▸ IH.out a ((a + b + 1) / 2 - 1) w (by omega) (by omega) (by omega) (by omega) (by omega) hw)
      rw [hx] at b1 HG
      rw [hy] at b2 HG
      clear hx hy IH
      go_enter Try.func34, Try.ntmps34
      go_wp2_with (go_at_call 35; refine (near_any _ _ _ (by omega)).mono ?_; rintro e w' ⟨rfl, rfl⟩)
      refine name_world (p := fun W => Code.wp _ _ _ _ W) (fun W0 hW0 => ?_)
      have hB0 : Blk W0 B #[.func (.func 34) #[] #[.pointer (some ⟨B, 0, none⟩)]] 59 := by
        rw [hW0]; exact (HB.out.alloc _).alloc _
      have hX0 : Blk W0 w.heap.size #[.int .i64 a, .int .i64 b] 55 := by
        rw [hW0]; exact (Blk.new _ _ _).alloc _
      have hN0 : New w W0 := by rw [hW0]; exact (Mod.alloc (Mod.alloc (Mod.refl _ _) _) _)
      have d0 : W0.cell? ⟨B, 0, none⟩ = some (.func (.func 34) #[] #[.pointer (some ⟨B, 0, none⟩)]) := hB0.cellv 0 rfl
      obtain ⟨d1, d2⟩ := pair_cells hX0
      have hl0 := hB0.lt
      have hl1 := hX0.lt
      have HB0 := hid hB0; have HX0 := hid hX0; have HN0 := hid hN0
      have hw1 : B < W0.heap.size + 1 := by omega
      have hw2 : w.heap.size < W0.heap.size + 1 := by omega
      clear hW0 hB0 hX0 hN0 c0 HB
      have hwr1 : IntKind.i64.wrap ((a + b + 1) / 2 - 1) = (a + b + 1) / 2 - 1 := IntWalk.i64_in _ (by omega)
      have hwr2 : IntKind.i64.wrap (1 + (x : Int)) = 1 + (x : Int) := IntWalk.i64_in _ (by omega)
      have hwr3 : IntKind.i64.wrap (3 + (y : Int)) = 3 + (y : Int) := IntWalk.i64_in _ (by omega)
      have tok : True := trivial
      go_region_held3 (fun w' => w'.cell? ⟨B, 0, none⟩ = some (.func (.func 34) #[] #[.pointer (some ⟨B, 0, none⟩)]) ∧ w'.cell? ⟨w.heap.size, 0, none⟩ = some (.int .i64 a) ∧ w'.cell? ⟨w.heap.size, 1, none⟩ = some (.int .i64 b)) ((first | exact ⟨g20, g21, g22⟩ | exact ⟨g10, g11, g12⟩ | go_keep)) (first | (go_at_call 36; refine (middle_any a b _ (by omega)).mono ?_; rintro e w' ⟨rfl, rfl⟩) | (go_at_call 34; have tk := tok; clear tok; refine (IH1.out _ ?_).mono ?_; (repeat (first | with_reducible exact HB0.out | with_reducible apply Blk.alloc | with_reducible apply Blk.drew)); rintro e W1 ⟨rfl, n1⟩; have HB1 : Hid (Blk W1 B #[.func (.func 34) #[] #[.pointer (some ⟨B, 0, none⟩)]] 59) := (by refine New.blk n1 ?_; (repeat (first | with_reducible exact HB0.out | with_reducible apply Blk.alloc | with_reducible apply Blk.drew))); have HX1 : Hid (Blk W1 w.heap.size #[.int .i64 a, .int .i64 b] 55) := (by refine New.blk n1 ?_; (repeat (first | with_reducible exact HX0.out | with_reducible apply Blk.alloc | with_reducible apply Blk.drew))); have HN1 := hid n1; have g10 : W1.cell? ⟨B, 0, none⟩ = some (.func (.func 34) #[] #[.pointer (some ⟨B, 0, none⟩)]) := HB1.out.cellv 0 rfl; obtain ⟨g11, g12⟩ := pair_cells HX1.out; have hk10 := HB1.out.lt; have hk11 := HX1.out.lt; clear n1) | (go_at_call 34; refine (IH2.out _ ?_).mono ?_; (repeat (first | with_reducible exact HB1.out | with_reducible apply Blk.alloc | with_reducible apply Blk.drew)); rintro e W2 ⟨rfl, n2⟩; have HB2 : Hid (Blk W2 B #[.func (.func 34) #[] #[.pointer (some ⟨B, 0, none⟩)]] 59) := (by refine New.blk n2 ?_; (repeat (first | with_reducible exact HB1.out | with_reducible apply Blk.alloc | with_reducible apply Blk.drew))); have HX2 : Hid (Blk W2 w.heap.size #[.int .i64 a, .int .i64 b] 55) := (by refine New.blk n2 ?_; (repeat (first | with_reducible exact HX1.out | with_reducible apply Blk.alloc | with_reducible apply Blk.drew))); have HN2 := hid n2; have g20 : W2.cell? ⟨B, 0, none⟩ = some (.func (.func 34) #[] #[.pointer (some ⟨B, 0, none⟩)]) := HB2.out.cellv 0 rfl; obtain ⟨g21, g22⟩ := pair_cells HX2.out; have hk20 := HB2.out.lt; have hk21 := HX2.out.lt; clear n2))
      all_goals go_wp2
      all_goals go_ret
      all_goals refine ⟨ret_int (by rw [HG.out]; omega), Mod.trans HN0.out (Mod.trans (Mod.drew (Mod.alloc (Mod.refl _ _) _)) (Mod.trans HN1.out (Mod.trans (Mod.alloc (Mod.refl _ _) _) HN2.out)))⟩

/-- Steps of the program. -/
theorem steps_bad (low high : Int) (w : World) (hr : right low high = false) :
    Calls Try.prog 8 #[.int .i64 low, .int .i64 high] w fun e w' => e = .returned (.tuple #[.int .i64 0, .int .i64 7]) ∧ New w w' := by
  have HR := hid hr
  clear hr
  go_enter Try.func8, Try.ntmps8
  go_wp2_with (go_at_call 12; refine (new_bad _ _ _ HR.out).mono ?_; rintro e w1 ⟨rfl, rfl⟩)
  go_ret2
  exact ⟨rfl, Mod.refl _ _⟩
set_option maxHeartbeats 1000000 in
theorem steps_any (low high : Int) (w : World) (hr : right low high = true) :
    Calls Try.prog 8 #[.int .i64 low, .int .i64 high] w fun e w' => e = .returned (.tuple #[.int .i64 (need (high - low).toNat), .int .i64 0]) ∧ New w w' := by
  have HR := hid hr
  have hb := hr
  simp only [right, decide_eq_true_eq] at hb
  obtain ⟨h1, h2, h3⟩ := hb
  clear hr
  go_enter Try.func8, Try.ntmps8
  go_wp2_with (first | (go_at_call 12; refine (new_ok _ _ _ HR.out).mono ?_; rintro e w1 ⟨rfl, hB1, hN1⟩; have HN1 := hid hN1; clear hN1 hB1) | (go_at_call 34; refine (steps1_any w1.heap.size (high - low).toNat low high _ (by omega) (by omega) (by omega) (by omega) (by omega) (Blk.new w1 _ _)).mono ?_; rintro e w2 ⟨rfl, hN2⟩; have HN2 := hid hN2; clear hN2))
  go_ret2
  exact ⟨rfl, Mod.trans (Mod.alloc HN1.out _) HN2.out⟩

/-! ### Steps of the reference: a table, from the narrow widths up -/
def TabAt (w : World) (b n k : Nat) : Prop :=
  ∃ cs : Array Value, Blk w b cs 3 ∧ cs.size = n ∧ ∀ i, i < n → cs[i]? = some (.int .i64 (if i < k then (need i : Int) else 0))
theorem TabAt.cell {w : World} {b n k : Nat} (h : TabAt w b n k) (i : Nat) (hi : i < n) (hk : i < k) : w.cell? ⟨b, i, none⟩ = some (.int .i64 (need i)) := by
  obtain ⟨cs, h1, h2, h3⟩ := h
  rw [h1.cell, h3 i hi, if_pos hk]
theorem TabAt.cell0 {w : World} {b n k : Nat} (h : TabAt w b n k) (i : Nat) (hi : i < n) (hk : ¬ i < k) : w.cell? ⟨b, i, none⟩ = some (.int .i64 0) := by
  obtain ⟨cs, h1, h2, h3⟩ := h
  rw [h1.cell, h3 i hi, if_neg hk]
theorem TabAt.frz {w : World} {b n k : Nat} (h : TabAt w b n k) (i : Nat) : w.frozen? ⟨b, i, none⟩ = false := by
  obtain ⟨cs, h1, h2, h3⟩ := h
  exact h1.frz i
theorem TabAt.lt {w : World} {b n k : Nat} (h : TabAt w b n k) : b < w.heap.size := by
  obtain ⟨cs, h1, h2, h3⟩ := h
  exact h1.lt
theorem TabAt.set {w : World} {b n k : Nat} (h : TabAt w b n k) (hk : k < n) : TabAt (w.setCell ⟨b, k, none⟩ (.int .i64 (need k))) b n (k + 1) := by
  obtain ⟨cs, h1, h2, h3⟩ := h
  refine ⟨_, h1.set k _, by simp [h2], fun i hi => ?_⟩
  by_cases e : i = k
  · subst e
    rw [Array.getElem?_setIfInBounds_self_of_lt (by omega), if_pos (by omega)]
  · rw [Array.getElem?_setIfInBounds_ne (by omega), h3 i hi]
    by_cases h : i < k
    · rw [if_pos h, if_pos (by omega)]
    · rw [if_neg h, if_neg (by omega)]
theorem TabAt.drew {w : World} {b n k : Nat} (h : TabAt w b n k) : TabAt w.drew b n k := h
theorem TabAt.made (w : World) (n : Nat) : TabAt (w.alloc (.cells (madeCells #[.int .i64 0] n) 3)) w.heap.size n 16 := by
  refine ⟨_, Blk.new w _ _, size_madeCells _ _, fun i hi => ?_⟩
  have : (if i < 16 then (need i : Int) else 0) = 0 := by
    split
    · next h => rw [need_small i h]; rfl
    · rfl
  rw [this]
  have h := congrArg (fun l : List Value => l[i]?) (toList_madeCells_one (.int .i64 0) n)
  simp only [Array.getElem?_toList] at h
  rw [h]
  simp [hi]

theorem rsteps_bad (low high : Int) (w : World) (hr : right low high = false) :
    Calls Try.prog 10 #[.int .i64 low, .int .i64 high] w fun e w' => e = .returned (.tuple #[.int .i64 0, .int .i64 7]) ∧ New w w' := by
  have hrt := right_any low high w
  rw [hr] at hrt
  have HRT := hid hrt
  clear hrt hr
  go_enter Try.func10, Try.ntmps10
  go_wp2_with (go_at_call 11; refine HRT.out.mono ?_; rintro e w' ⟨rfl, rfl⟩)
  go_ret2
  exact ⟨rfl, Mod.refl _ _⟩
theorem Try.infoInt : (Try.prog.info? 3).map (fun i => (i.zero, i.size, i.bytes)) = some (some (.int .i64 0), 1, 8) := by kernel_rfl
set_option maxRecDepth 100000 in
set_option maxHeartbeats 2000000 in
theorem rsteps_any (low high : Int) (w : World) (hr : right low high = true) :
    Calls Try.prog 10 #[.int .i64 low, .int .i64 high] w fun e w' => e = .returned (.tuple #[.int .i64 (need (high - low).toNat), .int .i64 0]) ∧ New w w' := by
  have hrt := right_any low high w
  rw [hr] at hrt
  have HRT := hid hrt
  simp only [right, decide_eq_true_eq] at hr
  obtain ⟨h1, h2, h3⟩ := hr
  clear hrt
  obtain ⟨n, hn⟩ : ∃ n : Nat, (n : Int) = high - low + 1 := ⟨(high - low + 1).toNat, by omega⟩
  have hn1 : (n : Int) ≤ high - low + 1 := by omega
  have hn2 : high - low + 1 ≤ (n : Int) := by omega
  have HN := hid hn
  have hmk := @run_make_row' Try.prog 62 3 (.int .i64 0) 8 Try.underlying62 Try.infoInt rfl .i64 .i64 n (by omega) (by omega)
  rw [hn] at hmk
  clear hn
  go_enter Try.func10, Try.ntmps10
  go_wp2_with (go_at_call 11; refine HRT.out.mono ?_; rintro e w' ⟨rfl, rfl⟩)
  have hn3 : n ≤ 8425 := by omega
  clear hmk HRT
  go_loopw [7] (fun i wr => ∃ k : Nat, 16 ≤ k ∧ (k ≤ n ∨ k = 16) ∧ i = .int .i64 k ∧ TabAt wr w.heap.size n k ∧ New w wr) (fun i _ => 9000 - (intOf i).toNat)
  case atStart => exact ⟨16, by omega, .inr rfl, rfl, TabAt.made w n, (Mod.refl _ _).alloc _⟩
  case round =>
    obtain ⟨k, hk1, hk2, rfl, hT, hN⟩ := hrel
    have HT := hid hT; have HNW := hid hN
    have hblt := hT.lt
    clear hT hN
    by_cases hlt : k < n
    · have z1 := HT.out.cell (k - (k + 1) / 2) (by omega) (by omega)
      have z2 := HT.out.cell ((k + 1) / 2 - 1) (by omega) (by omega)
      have z3 := HT.out.cell0 k (by omega) (by omega)
      have z4 := HT.out.frz k
      have hg := need_great k hk1
      have bd1 := need_bd (k - (k + 1) / 2) (by omega)
      have bd2 := need_bd ((k + 1) / 2 - 1) (by omega)
      obtain ⟨x, hx⟩ : ∃ x, need (k - (k + 1) / 2) = x := ⟨_, rfl⟩
      obtain ⟨y, hy⟩ : ∃ y, need ((k + 1) / 2 - 1) = y := ⟨_, rfl⟩
      rw [hx] at z1 hg bd1
      rw [hy] at z2 hg bd2
      have HG := hid hg
      clear hg hx hy
      go_wp2
      go_region
      all_goals go_wp2
      have hv : (if 1 + (x : Int) < 3 + (y : Int) then 3 + (y : Int) else 1 + (x : Int)) = (need k : Int) := by rw [HG.out]; split <;> omega
      refine ⟨⟨k + 1, by omega, .inl (by omega), by go_num, ?_, ?_⟩, by simp [intOf]; omega⟩
      · rw [hv]; exact (HT.out.set hlt).drew
      · exact Mod.drew (Mod.set HNW.out _ _ (.inr (Nat.le_refl _)))
    · have z := HT.out.cell (high - low).toNat (by omega) (by omega)
      have hlen : (n : Int) ≤ k := by omega
      obtain ⟨x, hx⟩ : ∃ x, need (high - low).toNat = x := ⟨_, rfl⟩
      rw [hx] at z
      have HX := hid hx
      clear hx
      go_wp2
      go_ret2
      exact ⟨by rw [HX.out]; rfl, HNW.out⟩
end Go.Proofs.Ytakglmdpaaiclaa
