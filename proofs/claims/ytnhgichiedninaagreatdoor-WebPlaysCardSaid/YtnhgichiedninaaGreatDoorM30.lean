/-
  Several texts in one, in their build order. The walk of longest (the reference's client of web seeds). Conditions: the client lies as told.
-/
import Derived.Test.YtnhgichiedninaaGreatDoorM29
namespace Go.Proofs.YtnhgichiedninaaGreatDoor
set_option linter.unusedSimpArgs false
set_option linter.unusedVariables false
open Go.RowKit Go.Shelf

/-- The first longest run, each counted as at most m: (0, 0) if there is none. -/
def bestR (m : Int) : Nat × Int → List (Nat × Nat) → Nat × Int
  | b, [] => b
  | b, r :: l => bestR m (if b.2 < min (r.2 : Int) m then (r.1, min (r.2 : Int) m) else b) l
theorem bestR_G (m : Int) : ∀ (l : List (Nat × Nat)) (b : Nat × Nat), bestR m (b.1, min (b.2 : Int) m) l = match bestG m (some b) l with
    | some r => (r.1, min (r.2 : Int) m)
    | none => (b.1, min (b.2 : Int) m)
  | [], b => rfl
  | r :: l, b => by
    rw [bestR, bestG]
    by_cases h : min (b.2 : Int) m < min (r.2 : Int) m
    · rw [if_pos h, if_pos h, bestR_G m l r]
      cases hb : bestG m (some r) l with
      | some x => rfl
      | none => have := (best_none m l _ hb).1; cases this
    · rw [if_neg h, if_neg h, bestR_G m l b]
theorem bestR_zero (m : Int) (hm : 1 ≤ m) (l : List (Nat × Nat)) (hl : ∀ r ∈ l, 1 ≤ r.2) : bestR m (0, 0) l = match bestG m none l with
    | some r => (r.1, min (r.2 : Int) m)
    | none => (0, 0) := by
  cases l with
  | nil => rfl
  | cons r l =>
    have h1 := hl r (List.mem_cons_self ..)
    rw [bestR, bestG, if_pos (by simp only; omega), bestR_G m l r]
    cases hb : bestG m (some r) l with
    | some x => rfl
    | none => have := (best_none m l _ hb).1; cases this
theorem bestR_pos (m : Int) (hm : 1 ≤ m) : ∀ (l : List (Nat × Nat)) (b : Nat × Int), 0 ≤ b.2 ∧ b.2 ≤ m → 0 ≤ (bestR m b l).2 ∧ (bestR m b l).2 ≤ m
  | [], b, h => h
  | r :: l, b, h => by
    rw [bestR]
    split
    · exact bestR_pos m hm l _ (by simp only; omega)
    · exact bestR_pos m hm l _ h
def RefV.free (r : RefV) (i : Nat) : Bool := r.wanted.getD i false && !(takenB r.webs i)
def RefV.best (r : RefV) : Nat × Int := bestR r.run (0, 0) (runsF r.free r.wanted.length 0)
theorem len_more {f : Nat → Bool} {i m d : Nat} (h : m + lenF f (i + m) (d - m) = lenF f i d) (hm : m < d) (hf : f (i + m) = true) : (m + 1) + lenF f (i + (m + 1)) (d - (m + 1)) = lenF f i d := by
  obtain ⟨e, he⟩ : ∃ e, d - m = e + 1 := ⟨d - m - 1, by omega⟩
  rw [he, lenF_step f hf] at h
  rw [show d - (m + 1) = e by omega, show i + (m + 1) = i + m + 1 by omega]
  omega
theorem len_stop {f : Nat → Bool} {i m d : Nat} (h : m + lenF f (i + m) (d - m) = lenF f i d) (hs : ¬ m < d ∨ f (i + m) = false) : lenF f i d = m := by
  rcases hs with q | q
  · rw [show d - m = 0 by omega, lenF] at h; omega
  · by_cases hd : m < d
    · obtain ⟨e, he⟩ : ∃ e, d - m = e + 1 := ⟨d - m - 1, by omega⟩
      rw [he, lenF, q] at h
      simp at h
      omega
    · rw [show d - m = 0 by omega, lenF] at h; omega
theorem ite_min (a b : Int) : (if b < a then b else a) = min a b := by
  split <;> omega
theorem runs_next {F : Nat → Bool} {N i m : Nat} {rn : Int} {b : Nat × Int} (hi : i < N) (hL : lenF F i (N - i) = m) (hb : 0 ≤ b.2) (hr : 1 ≤ rn) : bestR rn (if b.2 < min (m : Int) rn then (i, min (m : Int) rn) else b) (runsF F N (i + m + 1)) = bestR rn b (runsF F N i) := by
  by_cases h0 : m = 0
  · subst h0
    rw [runsF_none hi hL, if_neg (by simp only [Int.natCast_zero]; omega)]
  · have := runsF_some hi (by rw [hL]; exact h0)
    rw [hL] at this
    rw [this]
    rfl
set_option maxRecDepth 100000 in
set_option maxHeartbeats 8000000 in
theorem rlongest_any (R WB wc DB dc GB gc : Nat) (r : RefV) (w : World) (h : RefAt w R WB wc DB dc GB gc r) :
    Calls Tryz.prog 46 #[.pointer (some ⟨R, 0, none⟩)] w fun e w' => e = .returned (.agg #[.int .i64 r.best.1, .int .i64 r.best.2]) ∧ New w w' := by
  have HR := hid h
  have hfw := h.few.1; have hcp := h.caps.2.1; have hw60 := h.few.2.1; have hnn := h.nums
  have hRl := h.row.lt
  unfold maxLen at hcp
  obtain ⟨N, hN⟩ : ∃ N, N = r.wanted.length := ⟨_, rfl⟩
  have HB0 := hid (show r.best = bestR r.run (0, 0) (runsF r.free N 0) by rw [hN]; rfl)
  have HN := hid hN
  rw [← hN] at hcp hw60
  obtain ⟨F, hF⟩ : ∃ F, F = r.free := ⟨_, rfl⟩
  rw [← hF] at HB0
  have HF := hid hF
  clear h hN hF
  go_enter Tryz.func46, Tryz.ntmps46
  go_wp2
  obtain ⟨w1, h1⟩ : ∃ w1, w1 = (w.alloc (.cells #[.int .i64 0, .int .i64 0] 34)).alloc (.cells #[.int .i64 0, .int .i64 0] 34) := ⟨_, rfl⟩
  rw [← h1]
  have X1 : Hid (Blk w1 (w.heap.size + 1) #[.int .i64 0, .int .i64 0] 34) := hid (by rw [h1]; exact Blk.newAt (by simp))
  have Y1 : Hid (Blk w1 w.heap.size #[.int .i64 0, .int .i64 0] 34) := hid (by rw [h1]; exact (Blk.new _ _ _).alloc _)
  have N1 : Hid (New w w1) := hid (by rw [h1]; exact ((Mod.refl _ _).alloc _).alloc _)
  obtain ⟨Y, hY⟩ : ∃ Y, Y = w.heap.size := ⟨_, rfl⟩
  have HY := hid hY
  rw [← hY] at X1 Y1 hRl
  rw [← hY]
  clear h1 hY
  go_loopw [4] (fun x wr => ∃ (i bf : Nat) (bc : Int), x = .int .i64 i ∧ i ≤ N + 1 ∧ (0 ≤ bc ∧ bc ≤ 16) ∧ bf ≤ N ∧ bestR r.run (bf, bc) (runsF F N i) = bestR r.run (0, 0) (runsF F N 0) ∧ Blk wr (Y + 1) #[.int .i64 bf, .int .i64 bc] 34 ∧ Blk wr Y #[.int .i64 0, .int .i64 0] 34 ∧ New w wr) (fun x _ => N + 1 - (intOf x).toNat)
  case atStart => exact ⟨0, 0, 0, rfl, by omega, by omega, by omega, rfl, X1.out, Y1.out, N1.out⟩
  case round =>
    obtain ⟨i, bf, bc, rfl, hi, hbc, hbf, hbb, hx, hy, hn⟩ := hrel
    have HBB := hid hbb; have HX := hid hx; have HY1 := hid hy; have HNW := hid hn
    have c1 := (HR.out.new hn).row.cellv 1 rfl; have cl := (HR.out.new hn).row.lt
    rw [← HN.out] at c1
    obtain ⟨wo, rfl⟩ : ∃ wo : World, wo = wr := ⟨_, rfl⟩
    by_cases hlt : i < N
    · have hltI : (i : Int) < (N : Int) := by omega
      clear hbb hx hy hn
      go_wp2
      clear c1 cl
      go_loopw [5] (fun x wr => ∃ m : Nat, x = .int .i64 m ∧ m ≤ N - i ∧ m + lenF F (i + m) (N - i - m) = lenF F i (N - i) ∧ New wo wr) (fun x _ => N - i - (intOf x).toNat)
      case atStart => exact ⟨0, rfl, by omega, by simp, Mod.refl _ _⟩
      case round =>
        obtain ⟨m, rfl, hm, hln, hn⟩ := hrel
        have HLN := hid hln; have HN2 := hid hn
        have HRW := hid (HR.out.new (HNW.out.trans hn))
        have c1 := HRW.out.row.cellv 1 rfl; have cl := HRW.out.row.lt; have c3 := HRW.out.row.cellv 3 rfl
        rw [← HN.out] at c1
        have hX2 := New.blk hn HX.out
        obtain ⟨q, hq⟩ : ∃ q, q = i + m := ⟨_, rfl⟩
        have hqI : (i : Int) + (m : Int) = (q : Int) := by omega
        have HQ := hid hq
        have hwq : IntKind.i64.wrap (q : Int) = (q : Int) := by rw [IntKind.wrap_i64]; omega
        clear hln hn
        by_cases hql : q < N
        · have hqN : (q : Int) < (N : Int) := by omega
          have g0 := HRW.out.wish_at (i := q) (by rw [← HN.out]; exact hql)
          have gl := HRW.out.want.lt
          have HTK := hid (rtaken_any R WB wc DB dc GB gc r q _ HRW.out (by omega))
          have hfq : F q = (r.wanted[q]'(by rw [← HN.out]; exact hql) && !(takenB r.webs q)) := by
            rw [HF.out]
            unfold RefV.free
            rw [List.getD_eq_getElem?_getD, List.getElem?_eq_getElem (by rw [← HN.out]; exact hql)]
            rfl
          obtain ⟨wb, hwb⟩ : ∃ wb, wb = r.wanted[q]'(by rw [← HN.out]; exact hql) := ⟨_, rfl⟩
          obtain ⟨tb, htb⟩ : ∃ tb, tb = takenB r.webs q := ⟨_, rfl⟩
          rw [← hwb] at g0 hfq
          rw [← htb] at hfq HTK
          have HFQ := hid hfq
          clear hwb htb hfq
          cases wb with
          | false =>
            have HL := hid (len_stop HLN.out (.inr (by rw [← hq, HFQ.out]; rfl)))
            have x0 := hX2.cellv 0 rfl; have x1 := hX2.cellv 1 rfl; have xl := hX2.lt; have xf0 := hX2.frz 0; have xf1 := hX2.frz 1
            clear hX2 hq
            go_wp2_with fail
            refine wp_region_held_drew (S := (fun w' => w'.cell? ⟨R, 3, none⟩ = some (.int .i64 r.run) ∧ w'.cell? ⟨Y + 1, 1, none⟩ = some (.int .i64 bc))) (by kernel_rfl) ⟨c3, x1⟩ (fun hHeld => ?_)
            refine wpAnyH_take (i := 0) (v := ?_) (by simp only [List.getElem?_toArray, List.getElem?_cons_succ, List.getElem?_cons_zero]; rfl) (by kernel_rfl) (by kernel_rfl) (by kernel_rfl) (by intro _ _ _ h; exact h) (Or.inl ⟨by rfl, ?_⟩) (by assumption) ?_
            rotate_left
            · intro w hSw
              (try dsimp only at hSw)
              first | (go_simp; done) | (go_simp; with_reducible rfl) | with_reducible rfl
            simp only [Act.put, List.setIfInBounds_toArray, List.set_cons_zero, List.set_cons_succ]
            refine wpAnyH_take (i := 1) (v := ?_) (by simp only [List.getElem?_toArray, List.getElem?_cons_succ, List.getElem?_cons_zero]; rfl) (by kernel_rfl) (by kernel_rfl) (by kernel_rfl) (by intro _ _ _ h; exact h) (Or.inl ⟨by rfl, ?_⟩) (by assumption) ?_
            rotate_left
            · intro w hSw
              (try dsimp only at hSw)
              first | (go_simp; done) | (go_simp; with_reducible rfl) | with_reducible rfl
            simp only [Act.put, List.setIfInBounds_toArray, List.set_cons_zero, List.set_cons_succ]
            refine wpAnyH_take (i := 2) (v := ?_) (by simp only [List.getElem?_toArray, List.getElem?_cons_succ, List.getElem?_cons_zero]; rfl) (by kernel_rfl) (by kernel_rfl) (by kernel_rfl) (by intro _ _ _ h; exact h) (Or.inl ⟨by rfl, ?_⟩) (by assumption) ?_
            rotate_left
            · intro w hSw
              (try dsimp only at hSw)
              first | (go_simp; done) | (go_simp; with_reducible rfl) | with_reducible rfl
            simp only [Act.put, List.setIfInBounds_toArray, List.set_cons_zero, List.set_cons_succ]
            refine wpAnyH_take (i := 3) (v := ?_) (by simp only [List.getElem?_toArray, List.getElem?_cons_succ, List.getElem?_cons_zero]; rfl) (by kernel_rfl) (by kernel_rfl) (by kernel_rfl) (by intro _ _ _ h; exact h) (Or.inl ⟨by rfl, ?_⟩) (by assumption) ?_
            rotate_left
            · intro w hSw
              (try dsimp only at hSw)
              first | (go_simp; done) | (go_simp; with_reducible rfl) | with_reducible rfl
            simp only [Act.put, List.setIfInBounds_toArray, List.set_cons_zero, List.set_cons_succ]
            refine wpAnyH_take (i := 4) (v := ?_) (by simp only [List.getElem?_toArray, List.getElem?_cons_succ, List.getElem?_cons_zero]; rfl) (by kernel_rfl) (by kernel_rfl) (by kernel_rfl) (by intro _ _ _ h; exact h) (Or.inl ⟨by rfl, ?_⟩) (by assumption) ?_
            rotate_left
            · intro w hSw
              (try dsimp only at hSw)
              first | (go_simp; done) | (go_simp; with_reducible rfl) | with_reducible rfl
            simp only [Act.put, List.setIfInBounds_toArray, List.set_cons_zero, List.set_cons_succ]
            refine wpAnyH_take (i := 5) (v := ?_) (by simp only [List.getElem?_toArray, List.getElem?_cons_succ, List.getElem?_cons_zero]; rfl) (by kernel_rfl) (by kernel_rfl) (by kernel_rfl) (by intro _ _ _ h; exact h) (Or.inl ⟨by rfl, ?_⟩) (by assumption) ?_
            rotate_left
            · intro w hSw
              (try dsimp only at hSw)
              first | (go_simp; done) | (go_simp; with_reducible rfl) | with_reducible rfl
            simp only [Act.put, List.setIfInBounds_toArray, List.set_cons_zero, List.set_cons_succ]
            refine wpAnyH_take (i := 6) (v := ?_) (by simp only [List.getElem?_toArray, List.getElem?_cons_succ, List.getElem?_cons_zero]; rfl) (by kernel_rfl) (by kernel_rfl) (by kernel_rfl) (by intro _ _ _ h; exact h) (Or.inl ⟨by rfl, ?_⟩) (by assumption) ?_
            rotate_left
            · intro w hSw
              (try dsimp only at hSw)
              first | (go_simp; done) | (go_simp; with_reducible rfl) | with_reducible rfl
            simp only [Act.put, List.setIfInBounds_toArray, List.set_cons_zero, List.set_cons_succ]
            refine wpAnyH_take (i := 7) (v := ?_) (by simp only [List.getElem?_toArray, List.getElem?_cons_succ, List.getElem?_cons_zero]; rfl) (by kernel_rfl) (by kernel_rfl) (by kernel_rfl) (by intro _ _ _ h; exact h) (Or.inl ⟨by rfl, ?_⟩) (by assumption) ?_
            rotate_left
            · intro w hSw
              (try dsimp only at hSw)
              first | (go_simp; done) | (go_simp; with_reducible rfl) | with_reducible rfl
            simp only [Act.put, List.setIfInBounds_toArray, List.set_cons_zero, List.set_cons_succ]
            refine wpAnyH_take (i := 8) (v := ?_) (by simp only [List.getElem?_toArray, List.getElem?_cons_succ, List.getElem?_cons_zero]; rfl) (by kernel_rfl) (by kernel_rfl) (by kernel_rfl) (by intro _ _ _ h; exact h) (Or.inl ⟨by rfl, ?_⟩) (by assumption) ?_
            rotate_left
            · intro w hSw
              (try dsimp only at hSw)
              first | (go_simp; done) | (go_simp; with_reducible rfl) | with_reducible rfl
            simp only [Act.put, List.setIfInBounds_toArray, List.set_cons_zero, List.set_cons_succ]
            refine wpAnyH_done (by kernel_rfl) ?_ _
            by_cases hmr : r.run < (m : Int)
            · have hmin : min (m : Int) r.run = r.run := by omega
              by_cases hgt : bc < r.run
              · have HNX := runs_next (rn := r.run) (b := (bf, bc)) hlt HL.out (by simp only; omega) (by omega)
                rw [if_pos (by simp only; omega), hmin] at HNX
                have HNX := hid HNX
                go_wp2
                have XF : Blk (((wr.setCell ⟨Y + 1, 0, none⟩ (.int .i64 i)).setCell ⟨Y + 1, 1, none⟩ (.int .i64 r.run)).drew) (Y + 1) #[.int .i64 i, .int .i64 r.run] 34 := (((New.blk HN2.out HX.out).set 0 _).set 1 _).row (by simp)
                have MF : Mod (fun q => q = Y + 1) wo (((wr.setCell ⟨Y + 1, 0, none⟩ (.int .i64 i)).setCell ⟨Y + 1, 1, none⟩ (.int .i64 r.run)).drew) := (Mod.set (S := fun q => q = Y + 1) (Mod.set (S := fun q => q = Y + 1) (New.mod HN2.out) ⟨Y + 1, 0, none⟩ _ (.inl rfl)) ⟨Y + 1, 1, none⟩ _ (.inl rfl)).drew
                exact ⟨⟨i + m + 1, i, r.run, by have := HQ.out; simp; omega, by omega, by omega, by omega, HNX.out.trans HBB.out, XF, MF.blk HY1.out (by omega), HNW.out.trans' MF (fun q hq e => by have e2 : q = Y + 1 := e; have := HY.out; omega)⟩, by have := HQ.out; simp [intOf]; omega⟩
              · have HNX := runs_next (rn := r.run) (b := (bf, bc)) hlt HL.out (by simp only; omega) (by omega)
                rw [if_neg (by simp only; omega)] at HNX
                have HNX := hid HNX
                go_wp2
                exact ⟨⟨i + m + 1, bf, bc, by have := HQ.out; simp; omega, by omega, by omega, by omega, HNX.out.trans HBB.out, New.blk (HN2.out.drew) HX.out, New.blk (HN2.out.drew) HY1.out, HNW.out.trans HN2.out.drew⟩, by have := HQ.out; simp [intOf]; omega⟩
            · have hmin : min (m : Int) r.run = (m : Int) := by omega
              by_cases hgt : bc < (m : Int)
              · have HNX := runs_next (rn := r.run) (b := (bf, bc)) hlt HL.out (by simp only; omega) (by omega)
                rw [if_pos (by simp only; omega), hmin] at HNX
                have HNX := hid HNX
                go_wp2
                have XF : Blk (((wr.setCell ⟨Y + 1, 0, none⟩ (.int .i64 i)).setCell ⟨Y + 1, 1, none⟩ (.int .i64 (m : Int))).drew) (Y + 1) #[.int .i64 i, .int .i64 (m : Int)] 34 := (((New.blk HN2.out HX.out).set 0 _).set 1 _).row (by simp)
                have MF : Mod (fun q => q = Y + 1) wo (((wr.setCell ⟨Y + 1, 0, none⟩ (.int .i64 i)).setCell ⟨Y + 1, 1, none⟩ (.int .i64 (m : Int))).drew) := (Mod.set (S := fun q => q = Y + 1) (Mod.set (S := fun q => q = Y + 1) (New.mod HN2.out) ⟨Y + 1, 0, none⟩ _ (.inl rfl)) ⟨Y + 1, 1, none⟩ _ (.inl rfl)).drew
                exact ⟨⟨i + m + 1, i, (m : Int), by have := HQ.out; simp; omega, by omega, by omega, by omega, HNX.out.trans HBB.out, XF, MF.blk HY1.out (by omega), HNW.out.trans' MF (fun q hq e => by have e2 : q = Y + 1 := e; have := HY.out; omega)⟩, by have := HQ.out; simp [intOf]; omega⟩
              · have HNX := runs_next (rn := r.run) (b := (bf, bc)) hlt HL.out (by simp only; omega) (by omega)
                rw [if_neg (by simp only; omega)] at HNX
                have HNX := hid HNX
                go_wp2
                exact ⟨⟨i + m + 1, bf, bc, by have := HQ.out; simp; omega, by omega, by omega, by omega, HNX.out.trans HBB.out, New.blk (HN2.out.drew) HX.out, New.blk (HN2.out.drew) HY1.out, HNW.out.trans HN2.out.drew⟩, by have := HQ.out; simp [intOf]; omega⟩
          | true =>
            have x0 := hX2.cellv 0 rfl; have x1 := hX2.cellv 1 rfl; have xl := hX2.lt; have xf0 := hX2.frz 0; have xf1 := hX2.frz 1
            clear hX2
            cases tb with
            | true =>
              have HL := hid (len_stop HLN.out (.inr (by rw [← hq, HFQ.out]; rfl)))
              clear hq
              go_wp2_with fail
              refine HTK.out.mono ?_
              rintro e w5 ⟨rfl, n5⟩
              have c3 := New.cellv n5 c3; have x0 := New.cellv n5 x0; have x1 := New.cellv n5 x1; have cl := Nat.lt_of_lt_of_le cl n5.size; have xl := Nat.lt_of_lt_of_le xl n5.size
              have HN2 := hid (HN2.out.trans n5)
              have X5 := hid (New.blk HN2.out HX.out)
              have xf0 := X5.out.frz 0; have xf1 := X5.out.frz 1
              clear n5 c1 g0 gl
              obtain ⟨wq, rfl⟩ : ∃ wq : World, wq = wr := ⟨_, rfl⟩
              obtain ⟨wr, rfl⟩ : ∃ wr : World, wr = w5 := ⟨_, rfl⟩
              go_wp2_with fail
              refine wp_region_held_drew (S := (fun w' => w'.cell? ⟨R, 3, none⟩ = some (.int .i64 r.run) ∧ w'.cell? ⟨Y + 1, 1, none⟩ = some (.int .i64 bc))) (by kernel_rfl) ⟨c3, x1⟩ (fun hHeld => ?_)
              refine wpAnyH_take (i := 0) (v := ?_) (by simp only [List.getElem?_toArray, List.getElem?_cons_succ, List.getElem?_cons_zero]; rfl) (by kernel_rfl) (by kernel_rfl) (by kernel_rfl) (by intro _ _ _ h; exact h) (Or.inl ⟨by rfl, ?_⟩) (by assumption) ?_
              rotate_left
              · intro w hSw
                (try dsimp only at hSw)
                first | (go_simp; done) | (go_simp; with_reducible rfl) | with_reducible rfl
              simp only [Act.put, List.setIfInBounds_toArray, List.set_cons_zero, List.set_cons_succ]
              refine wpAnyH_take (i := 1) (v := ?_) (by simp only [List.getElem?_toArray, List.getElem?_cons_succ, List.getElem?_cons_zero]; rfl) (by kernel_rfl) (by kernel_rfl) (by kernel_rfl) (by intro _ _ _ h; exact h) (Or.inl ⟨by rfl, ?_⟩) (by assumption) ?_
              rotate_left
              · intro w hSw
                (try dsimp only at hSw)
                first | (go_simp; done) | (go_simp; with_reducible rfl) | with_reducible rfl
              simp only [Act.put, List.setIfInBounds_toArray, List.set_cons_zero, List.set_cons_succ]
              refine wpAnyH_take (i := 2) (v := ?_) (by simp only [List.getElem?_toArray, List.getElem?_cons_succ, List.getElem?_cons_zero]; rfl) (by kernel_rfl) (by kernel_rfl) (by kernel_rfl) (by intro _ _ _ h; exact h) (Or.inl ⟨by rfl, ?_⟩) (by assumption) ?_
              rotate_left
              · intro w hSw
                (try dsimp only at hSw)
                first | (go_simp; done) | (go_simp; with_reducible rfl) | with_reducible rfl
              simp only [Act.put, List.setIfInBounds_toArray, List.set_cons_zero, List.set_cons_succ]
              refine wpAnyH_take (i := 3) (v := ?_) (by simp only [List.getElem?_toArray, List.getElem?_cons_succ, List.getElem?_cons_zero]; rfl) (by kernel_rfl) (by kernel_rfl) (by kernel_rfl) (by intro _ _ _ h; exact h) (Or.inl ⟨by rfl, ?_⟩) (by assumption) ?_
              rotate_left
              · intro w hSw
                (try dsimp only at hSw)
                first | (go_simp; done) | (go_simp; with_reducible rfl) | with_reducible rfl
              simp only [Act.put, List.setIfInBounds_toArray, List.set_cons_zero, List.set_cons_succ]
              refine wpAnyH_take (i := 4) (v := ?_) (by simp only [List.getElem?_toArray, List.getElem?_cons_succ, List.getElem?_cons_zero]; rfl) (by kernel_rfl) (by kernel_rfl) (by kernel_rfl) (by intro _ _ _ h; exact h) (Or.inl ⟨by rfl, ?_⟩) (by assumption) ?_
              rotate_left
              · intro w hSw
                (try dsimp only at hSw)
                first | (go_simp; done) | (go_simp; with_reducible rfl) | with_reducible rfl
              simp only [Act.put, List.setIfInBounds_toArray, List.set_cons_zero, List.set_cons_succ]
              refine wpAnyH_take (i := 5) (v := ?_) (by simp only [List.getElem?_toArray, List.getElem?_cons_succ, List.getElem?_cons_zero]; rfl) (by kernel_rfl) (by kernel_rfl) (by kernel_rfl) (by intro _ _ _ h; exact h) (Or.inl ⟨by rfl, ?_⟩) (by assumption) ?_
              rotate_left
              · intro w hSw
                (try dsimp only at hSw)
                first | (go_simp; done) | (go_simp; with_reducible rfl) | with_reducible rfl
              simp only [Act.put, List.setIfInBounds_toArray, List.set_cons_zero, List.set_cons_succ]
              refine wpAnyH_take (i := 6) (v := ?_) (by simp only [List.getElem?_toArray, List.getElem?_cons_succ, List.getElem?_cons_zero]; rfl) (by kernel_rfl) (by kernel_rfl) (by kernel_rfl) (by intro _ _ _ h; exact h) (Or.inl ⟨by rfl, ?_⟩) (by assumption) ?_
              rotate_left
              · intro w hSw
                (try dsimp only at hSw)
                first | (go_simp; done) | (go_simp; with_reducible rfl) | with_reducible rfl
              simp only [Act.put, List.setIfInBounds_toArray, List.set_cons_zero, List.set_cons_succ]
              refine wpAnyH_take (i := 7) (v := ?_) (by simp only [List.getElem?_toArray, List.getElem?_cons_succ, List.getElem?_cons_zero]; rfl) (by kernel_rfl) (by kernel_rfl) (by kernel_rfl) (by intro _ _ _ h; exact h) (Or.inl ⟨by rfl, ?_⟩) (by assumption) ?_
              rotate_left
              · intro w hSw
                (try dsimp only at hSw)
                first | (go_simp; done) | (go_simp; with_reducible rfl) | with_reducible rfl
              simp only [Act.put, List.setIfInBounds_toArray, List.set_cons_zero, List.set_cons_succ]
              refine wpAnyH_take (i := 8) (v := ?_) (by simp only [List.getElem?_toArray, List.getElem?_cons_succ, List.getElem?_cons_zero]; rfl) (by kernel_rfl) (by kernel_rfl) (by kernel_rfl) (by intro _ _ _ h; exact h) (Or.inl ⟨by rfl, ?_⟩) (by assumption) ?_
              rotate_left
              · intro w hSw
                (try dsimp only at hSw)
                first | (go_simp; done) | (go_simp; with_reducible rfl) | with_reducible rfl
              simp only [Act.put, List.setIfInBounds_toArray, List.set_cons_zero, List.set_cons_succ]
              refine wpAnyH_done (by kernel_rfl) ?_ _
              by_cases hmr : r.run < (m : Int)
              · have hmin : min (m : Int) r.run = r.run := by omega
                by_cases hgt : bc < r.run
                · have HNX := runs_next (rn := r.run) (b := (bf, bc)) hlt HL.out (by simp only; omega) (by omega)
                  rw [if_pos (by simp only; omega), hmin] at HNX
                  have HNX := hid HNX
                  go_wp2
                  have XF : Blk (((wr.setCell ⟨Y + 1, 0, none⟩ (.int .i64 i)).setCell ⟨Y + 1, 1, none⟩ (.int .i64 r.run)).drew) (Y + 1) #[.int .i64 i, .int .i64 r.run] 34 := (((New.blk HN2.out HX.out).set 0 _).set 1 _).row (by simp)
                  have MF : Mod (fun q => q = Y + 1) wo (((wr.setCell ⟨Y + 1, 0, none⟩ (.int .i64 i)).setCell ⟨Y + 1, 1, none⟩ (.int .i64 r.run)).drew) := (Mod.set (S := fun q => q = Y + 1) (Mod.set (S := fun q => q = Y + 1) (New.mod HN2.out) ⟨Y + 1, 0, none⟩ _ (.inl rfl)) ⟨Y + 1, 1, none⟩ _ (.inl rfl)).drew
                  exact ⟨⟨i + m + 1, i, r.run, by have := HQ.out; simp; omega, by omega, by omega, by omega, HNX.out.trans HBB.out, XF, MF.blk HY1.out (by omega), HNW.out.trans' MF (fun q hq e => by have e2 : q = Y + 1 := e; have := HY.out; omega)⟩, by have := HQ.out; simp [intOf]; omega⟩
                · have HNX := runs_next (rn := r.run) (b := (bf, bc)) hlt HL.out (by simp only; omega) (by omega)
                  rw [if_neg (by simp only; omega)] at HNX
                  have HNX := hid HNX
                  go_wp2
                  exact ⟨⟨i + m + 1, bf, bc, by have := HQ.out; simp; omega, by omega, by omega, by omega, HNX.out.trans HBB.out, New.blk (HN2.out.drew) HX.out, New.blk (HN2.out.drew) HY1.out, HNW.out.trans HN2.out.drew⟩, by have := HQ.out; simp [intOf]; omega⟩
              · have hmin : min (m : Int) r.run = (m : Int) := by omega
                by_cases hgt : bc < (m : Int)
                · have HNX := runs_next (rn := r.run) (b := (bf, bc)) hlt HL.out (by simp only; omega) (by omega)
                  rw [if_pos (by simp only; omega), hmin] at HNX
                  have HNX := hid HNX
                  go_wp2
                  have XF : Blk (((wr.setCell ⟨Y + 1, 0, none⟩ (.int .i64 i)).setCell ⟨Y + 1, 1, none⟩ (.int .i64 (m : Int))).drew) (Y + 1) #[.int .i64 i, .int .i64 (m : Int)] 34 := (((New.blk HN2.out HX.out).set 0 _).set 1 _).row (by simp)
                  have MF : Mod (fun q => q = Y + 1) wo (((wr.setCell ⟨Y + 1, 0, none⟩ (.int .i64 i)).setCell ⟨Y + 1, 1, none⟩ (.int .i64 (m : Int))).drew) := (Mod.set (S := fun q => q = Y + 1) (Mod.set (S := fun q => q = Y + 1) (New.mod HN2.out) ⟨Y + 1, 0, none⟩ _ (.inl rfl)) ⟨Y + 1, 1, none⟩ _ (.inl rfl)).drew
                  exact ⟨⟨i + m + 1, i, (m : Int), by have := HQ.out; simp; omega, by omega, by omega, by omega, HNX.out.trans HBB.out, XF, MF.blk HY1.out (by omega), HNW.out.trans' MF (fun q hq e => by have e2 : q = Y + 1 := e; have := HY.out; omega)⟩, by have := HQ.out; simp [intOf]; omega⟩
                · have HNX := runs_next (rn := r.run) (b := (bf, bc)) hlt HL.out (by simp only; omega) (by omega)
                  rw [if_neg (by simp only; omega)] at HNX
                  have HNX := hid HNX
                  go_wp2
                  exact ⟨⟨i + m + 1, bf, bc, by have := HQ.out; simp; omega, by omega, by omega, by omega, HNX.out.trans HBB.out, New.blk (HN2.out.drew) HX.out, New.blk (HN2.out.drew) HY1.out, HNW.out.trans HN2.out.drew⟩, by have := HQ.out; simp [intOf]; omega⟩
            | false =>
              have HL2 := hid (len_more HLN.out (by omega) (by rw [← hq, HFQ.out]; rfl))
              clear hq
              go_wp2_with fail
              refine HTK.out.mono ?_
              rintro e w5 ⟨rfl, n5⟩
              have HN5 := hid (HN2.out.trans n5)
              clear n5 c1 g0 gl c3 x0 x1 xf0 xf1 xl cl
              go_wp2
              exact ⟨⟨m + 1, by simp, by have := HQ.out; omega, HL2.out, HN5.out⟩, by have := HQ.out; simp [intOf]; omega⟩
        · have hqN : ¬ (q : Int) < (N : Int) := by omega
          have HL := hid (len_stop HLN.out (.inl (by omega)))
          have x0 := hX2.cellv 0 rfl; have x1 := hX2.cellv 1 rfl; have xl := hX2.lt; have xf0 := hX2.frz 0; have xf1 := hX2.frz 1
          clear hX2 hq
          go_wp2_with fail
          refine wp_region_held_drew (S := (fun w' => w'.cell? ⟨R, 3, none⟩ = some (.int .i64 r.run) ∧ w'.cell? ⟨Y + 1, 1, none⟩ = some (.int .i64 bc))) (by kernel_rfl) ⟨c3, x1⟩ (fun hHeld => ?_)
          refine wpAnyH_take (i := 0) (v := ?_) (by simp only [List.getElem?_toArray, List.getElem?_cons_succ, List.getElem?_cons_zero]; rfl) (by kernel_rfl) (by kernel_rfl) (by kernel_rfl) (by intro _ _ _ h; exact h) (Or.inl ⟨by rfl, ?_⟩) (by assumption) ?_
          rotate_left
          · intro w hSw
            (try dsimp only at hSw)
            first | (go_simp; done) | (go_simp; with_reducible rfl) | with_reducible rfl
          simp only [Act.put, List.setIfInBounds_toArray, List.set_cons_zero, List.set_cons_succ]
          refine wpAnyH_take (i := 1) (v := ?_) (by simp only [List.getElem?_toArray, List.getElem?_cons_succ, List.getElem?_cons_zero]; rfl) (by kernel_rfl) (by kernel_rfl) (by kernel_rfl) (by intro _ _ _ h; exact h) (Or.inl ⟨by rfl, ?_⟩) (by assumption) ?_
          rotate_left
          · intro w hSw
            (try dsimp only at hSw)
            first | (go_simp; done) | (go_simp; with_reducible rfl) | with_reducible rfl
          simp only [Act.put, List.setIfInBounds_toArray, List.set_cons_zero, List.set_cons_succ]
          refine wpAnyH_take (i := 2) (v := ?_) (by simp only [List.getElem?_toArray, List.getElem?_cons_succ, List.getElem?_cons_zero]; rfl) (by kernel_rfl) (by kernel_rfl) (by kernel_rfl) (by intro _ _ _ h; exact h) (Or.inl ⟨by rfl, ?_⟩) (by assumption) ?_
          rotate_left
          · intro w hSw
            (try dsimp only at hSw)
            first | (go_simp; done) | (go_simp; with_reducible rfl) | with_reducible rfl
          simp only [Act.put, List.setIfInBounds_toArray, List.set_cons_zero, List.set_cons_succ]
          refine wpAnyH_take (i := 3) (v := ?_) (by simp only [List.getElem?_toArray, List.getElem?_cons_succ, List.getElem?_cons_zero]; rfl) (by kernel_rfl) (by kernel_rfl) (by kernel_rfl) (by intro _ _ _ h; exact h) (Or.inl ⟨by rfl, ?_⟩) (by assumption) ?_
          rotate_left
          · intro w hSw
            (try dsimp only at hSw)
            first | (go_simp; done) | (go_simp; with_reducible rfl) | with_reducible rfl
          simp only [Act.put, List.setIfInBounds_toArray, List.set_cons_zero, List.set_cons_succ]
          refine wpAnyH_take (i := 4) (v := ?_) (by simp only [List.getElem?_toArray, List.getElem?_cons_succ, List.getElem?_cons_zero]; rfl) (by kernel_rfl) (by kernel_rfl) (by kernel_rfl) (by intro _ _ _ h; exact h) (Or.inl ⟨by rfl, ?_⟩) (by assumption) ?_
          rotate_left
          · intro w hSw
            (try dsimp only at hSw)
            first | (go_simp; done) | (go_simp; with_reducible rfl) | with_reducible rfl
          simp only [Act.put, List.setIfInBounds_toArray, List.set_cons_zero, List.set_cons_succ]
          refine wpAnyH_take (i := 5) (v := ?_) (by simp only [List.getElem?_toArray, List.getElem?_cons_succ, List.getElem?_cons_zero]; rfl) (by kernel_rfl) (by kernel_rfl) (by kernel_rfl) (by intro _ _ _ h; exact h) (Or.inl ⟨by rfl, ?_⟩) (by assumption) ?_
          rotate_left
          · intro w hSw
            (try dsimp only at hSw)
            first | (go_simp; done) | (go_simp; with_reducible rfl) | with_reducible rfl
          simp only [Act.put, List.setIfInBounds_toArray, List.set_cons_zero, List.set_cons_succ]
          refine wpAnyH_take (i := 6) (v := ?_) (by simp only [List.getElem?_toArray, List.getElem?_cons_succ, List.getElem?_cons_zero]; rfl) (by kernel_rfl) (by kernel_rfl) (by kernel_rfl) (by intro _ _ _ h; exact h) (Or.inl ⟨by rfl, ?_⟩) (by assumption) ?_
          rotate_left
          · intro w hSw
            (try dsimp only at hSw)
            first | (go_simp; done) | (go_simp; with_reducible rfl) | with_reducible rfl
          simp only [Act.put, List.setIfInBounds_toArray, List.set_cons_zero, List.set_cons_succ]
          refine wpAnyH_take (i := 7) (v := ?_) (by simp only [List.getElem?_toArray, List.getElem?_cons_succ, List.getElem?_cons_zero]; rfl) (by kernel_rfl) (by kernel_rfl) (by kernel_rfl) (by intro _ _ _ h; exact h) (Or.inl ⟨by rfl, ?_⟩) (by assumption) ?_
          rotate_left
          · intro w hSw
            (try dsimp only at hSw)
            first | (go_simp; done) | (go_simp; with_reducible rfl) | with_reducible rfl
          simp only [Act.put, List.setIfInBounds_toArray, List.set_cons_zero, List.set_cons_succ]
          refine wpAnyH_take (i := 8) (v := ?_) (by simp only [List.getElem?_toArray, List.getElem?_cons_succ, List.getElem?_cons_zero]; rfl) (by kernel_rfl) (by kernel_rfl) (by kernel_rfl) (by intro _ _ _ h; exact h) (Or.inl ⟨by rfl, ?_⟩) (by assumption) ?_
          rotate_left
          · intro w hSw
            (try dsimp only at hSw)
            first | (go_simp; done) | (go_simp; with_reducible rfl) | with_reducible rfl
          simp only [Act.put, List.setIfInBounds_toArray, List.set_cons_zero, List.set_cons_succ]
          refine wpAnyH_done (by kernel_rfl) ?_ _
          by_cases hmr : r.run < (m : Int)
          · have hmin : min (m : Int) r.run = r.run := by omega
            by_cases hgt : bc < r.run
            · have HNX := runs_next (rn := r.run) (b := (bf, bc)) hlt HL.out (by simp only; omega) (by omega)
              rw [if_pos (by simp only; omega), hmin] at HNX
              have HNX := hid HNX
              go_wp2
              have XF : Blk (((wr.setCell ⟨Y + 1, 0, none⟩ (.int .i64 i)).setCell ⟨Y + 1, 1, none⟩ (.int .i64 r.run)).drew) (Y + 1) #[.int .i64 i, .int .i64 r.run] 34 := (((New.blk HN2.out HX.out).set 0 _).set 1 _).row (by simp)
              have MF : Mod (fun q => q = Y + 1) wo (((wr.setCell ⟨Y + 1, 0, none⟩ (.int .i64 i)).setCell ⟨Y + 1, 1, none⟩ (.int .i64 r.run)).drew) := (Mod.set (S := fun q => q = Y + 1) (Mod.set (S := fun q => q = Y + 1) (New.mod HN2.out) ⟨Y + 1, 0, none⟩ _ (.inl rfl)) ⟨Y + 1, 1, none⟩ _ (.inl rfl)).drew
              exact ⟨⟨i + m + 1, i, r.run, by have := HQ.out; simp; omega, by omega, by omega, by omega, HNX.out.trans HBB.out, XF, MF.blk HY1.out (by omega), HNW.out.trans' MF (fun q hq e => by have e2 : q = Y + 1 := e; have := HY.out; omega)⟩, by have := HQ.out; simp [intOf]; omega⟩
            · have HNX := runs_next (rn := r.run) (b := (bf, bc)) hlt HL.out (by simp only; omega) (by omega)
              rw [if_neg (by simp only; omega)] at HNX
              have HNX := hid HNX
              go_wp2
              exact ⟨⟨i + m + 1, bf, bc, by have := HQ.out; simp; omega, by omega, by omega, by omega, HNX.out.trans HBB.out, New.blk (HN2.out.drew) HX.out, New.blk (HN2.out.drew) HY1.out, HNW.out.trans HN2.out.drew⟩, by have := HQ.out; simp [intOf]; omega⟩
          · have hmin : min (m : Int) r.run = (m : Int) := by omega
            by_cases hgt : bc < (m : Int)
            · have HNX := runs_next (rn := r.run) (b := (bf, bc)) hlt HL.out (by simp only; omega) (by omega)
              rw [if_pos (by simp only; omega), hmin] at HNX
              have HNX := hid HNX
              go_wp2
              have XF : Blk (((wr.setCell ⟨Y + 1, 0, none⟩ (.int .i64 i)).setCell ⟨Y + 1, 1, none⟩ (.int .i64 (m : Int))).drew) (Y + 1) #[.int .i64 i, .int .i64 (m : Int)] 34 := (((New.blk HN2.out HX.out).set 0 _).set 1 _).row (by simp)
              have MF : Mod (fun q => q = Y + 1) wo (((wr.setCell ⟨Y + 1, 0, none⟩ (.int .i64 i)).setCell ⟨Y + 1, 1, none⟩ (.int .i64 (m : Int))).drew) := (Mod.set (S := fun q => q = Y + 1) (Mod.set (S := fun q => q = Y + 1) (New.mod HN2.out) ⟨Y + 1, 0, none⟩ _ (.inl rfl)) ⟨Y + 1, 1, none⟩ _ (.inl rfl)).drew
              exact ⟨⟨i + m + 1, i, (m : Int), by have := HQ.out; simp; omega, by omega, by omega, by omega, HNX.out.trans HBB.out, XF, MF.blk HY1.out (by omega), HNW.out.trans' MF (fun q hq e => by have e2 : q = Y + 1 := e; have := HY.out; omega)⟩, by have := HQ.out; simp [intOf]; omega⟩
            · have HNX := runs_next (rn := r.run) (b := (bf, bc)) hlt HL.out (by simp only; omega) (by omega)
              rw [if_neg (by simp only; omega)] at HNX
              have HNX := hid HNX
              go_wp2
              exact ⟨⟨i + m + 1, bf, bc, by have := HQ.out; simp; omega, by omega, by omega, by omega, HNX.out.trans HBB.out, New.blk (HN2.out.drew) HX.out, New.blk (HN2.out.drew) HY1.out, HNW.out.trans HN2.out.drew⟩, by have := HQ.out; simp [intOf]; omega⟩
    · have hltI : ¬ (i : Int) < (N : Int) := by omega
      rw [runsF_end (by omega)] at hbb
      have hE : (bf, bc) = r.best := by rw [HB0.out, ← hbb]; rfl
      have e1 : r.best.1 = bf := by rw [← hE]
      have e2 : r.best.2 = bc := by rw [← hE]
      have E1 := hid e1; have E2 := hid e2
      have x0 := hx.cellv 0 rfl; have x1 := hx.cellv 1 rfl; have xl := hx.lt
      have y0 := hy.cellv 0 rfl; have y1 := hy.cellv 1 rfl; have yl := hy.lt; have yf0 := hy.frz 0; have yf1 := hy.frz 1
      clear hbb hx hy hn hE e1 e2
      go_wp2
      refine name_worldZ (p := fun W => bodyPost _ _ _ _ _ W) (fun W6 hW6 => ?_)
      have K6 : Blk W6 Y #[.int .i64 bf, .int .i64 bc] 34 := by
        rw [hW6]
        exact ((HY1.out.set 0 _).set 1 _).row (by simp)
      have N6 : New w W6 := by
        rw [hW6]
        exact Mod.set (Mod.set HNW.out _ _ (.inr (by rw [HY.out]; exact Nat.le_refl _))) _ _ (.inr (by rw [HY.out]; exact Nat.le_refl _))
      have q0 := K6.cellv 0 rfl; have q1 := K6.cellv 1 rfl
      clear hW6
      exact bodyPost_ret (v := .agg #[.int .i64 bf, .int .i64 bc]) (by simp [results, Tryz.results46, go_sem, q0, q1]) rfl ⟨by rw [E1.out, E2.out], N6⟩
end Go.Proofs.YtnhgichiedninaaGreatDoor
