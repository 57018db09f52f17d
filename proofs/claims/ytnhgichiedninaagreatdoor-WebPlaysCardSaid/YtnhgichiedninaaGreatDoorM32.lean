/-
  Several texts in one, in their build order. The walk of Took (the reference's client of web seeds). Conditions: the client lies as told.
-/
import Derived.Test.YtnhgichiedninaaGreatDoorM31
namespace Go.Proofs.YtnhgichiedninaaGreatDoor
set_option linter.unusedSimpArgs false
set_option linter.unusedVariables false
open Go.RowKit Go.Shelf

def clearB (l : List Bool) (a : Nat) : Nat → List Bool
  | 0 => l
  | j + 1 => (clearB l a j).set (a + j) false
def fillG (l : List Int) (a : Nat) (n : Int) : Nat → List Int
  | 0 => l
  | j + 1 => (fillG l a n j).set (a + j) n
theorem clearB_len (l : List Bool) (a : Nat) : ∀ j, (clearB l a j).length = l.length
  | 0 => rfl
  | j + 1 => by rw [clearB, List.length_set, clearB_len l a j]
theorem fillG_len (l : List Int) (a : Nat) (n : Int) : ∀ j, (fillG l a n j).length = l.length
  | 0 => rfl
  | j + 1 => by rw [fillG, List.length_set, fillG_len l a n j]
def WebV.fresh (v : WebV) : WebV := ⟨0, 0, 0, 0, v.bad, v.out⟩
def RefV.tookE (r : RefV) (now web : Int) : Int := if r.atE now web ≠ 0 then r.atE now web else match r.webs[web.toNat]? with
  | some v => if v.cnt = 0 then 8 else 0
  | none => 7
def RefV.tookC (r : RefV) (now : Int) (k : Nat) (v : WebV) : RefV := ⟨r.webs.set k v.fresh, clearB r.wanted v.frm.toNat v.cnt.toNat, fillG r.gave v.frm.toNat k v.cnt.toNat, r.run, now⟩
theorem atE_zero {r : RefV} {now web : Int} (h : r.atE now web = 0) : r.now ≤ now ∧ now ≤ 1000000000 ∧ 0 ≤ web ∧ web < r.webs.length := by
  unfold RefV.atE at h
  split at h
  · cases h
  · omega
set_option maxRecDepth 100000 in
set_option maxHeartbeats 8000000 in
theorem rtook_no (R WB wc DB dc GB gc : Nat) (r : RefV) (now web : Int) (w : World) (h : RefAt w R WB wc DB dc GB gc r) (hno : r.tookE now web ≠ 0) :
    Calls Tryz.prog 14 #[.pointer (some ⟨R, 0, none⟩), .int .i64 now, .int .i64 web] w fun e w' => e = .returned (.tuple #[.agg #[.int .i64 0, .int .i64 0], .int .i64 (r.tookE now web)]) ∧ New w w' := by
  have HR := hid h
  have HAT := hid (fun W (n : New w W) => rat_any R WB wc DB dc GB gc r now web W (h.new n))
  have hfw := h.few.1; have hcp := h.caps.1
  unfold maxLen at hcp
  have NN2 : Hid (New w (w.alloc (.cells #[.int .i64 0, .int .i64 0] 34))) := hid ((Mod.refl _ _).alloc _)
  have Z2 : Hid (Blk (w.alloc (.cells #[.int .i64 0, .int .i64 0] 34)) w.heap.size #[.int .i64 0, .int .i64 0] 34) := hid (Blk.new _ _ _)
  obtain ⟨E, hE⟩ : ∃ E, E = r.tookE now web := ⟨_, rfl⟩
  rw [← hE] at hno ⊢
  unfold RefV.tookE at hE
  have hz : r.atE now web = 0 → 0 ≤ web ∧ web < r.webs.length := fun q => (atE_zero q).2.2
  obtain ⟨A, hA⟩ : ∃ A, A = r.atE now web := ⟨_, rfl⟩
  rw [← hA] at HAT hE hz
  clear hA
  by_cases g1 : A = 0
  rotate_left
  · rw [if_pos g1] at hE
    have hb1 : (A != 0) = true := by rw [bne_iff_ne]; exact g1
    have HEQ := hid hE
    clear h hE g1 hno hz
    go_enter Tryz.func14, Tryz.ntmps14
    go_wp2_with fail
    refine (HAT.out _ NN2.out).mono ?_
    rintro e w1 ⟨rfl, rfl⟩
    go_wp2
    refine name_worldZ (p := fun W => bodyPost _ _ _ _ _ W) (fun W6 hW6 => ?_)
    have K6 : Blk W6 w.heap.size #[.int .i64 0, .int .i64 0] 34 := by
      rw [hW6]
      first | exact ((Z2.out.set 0 _).set 1 _).row (by simp) | exact ((((Z2.out.alloc _)).set 0 _).set 1 _).row (by simp) | exact Z2.out | exact Z2.out.alloc _
    have N6 : New w W6 := by
      rw [hW6]
      first | exact Mod.set (Mod.set NN2.out _ _ (.inr (Nat.le_refl _))) _ _ (.inr (Nat.le_refl _)) | exact Mod.set (Mod.set (NN2.out.alloc _) _ _ (.inr (Nat.le_refl _))) _ _ (.inr (Nat.le_refl _)) | exact NN2.out | exact NN2.out.alloc _
    have q0 := K6.cellv 0 rfl; have q1 := K6.cellv 1 rfl
    clear hW6
    exact bodyPost_ret (v := .tuple #[.agg #[.int .i64 0, .int .i64 0], .int .i64 A]) (by simp [results, Tryz.results14, go_sem, q0, q1]) rfl ⟨by rw [HEQ.out], N6⟩
  subst g1
  obtain ⟨z1, z2⟩ := hz rfl
  obtain ⟨k, rfl⟩ := Int.eq_ofNat_of_zero_le z1
  have hk : k < r.webs.length := by omega
  rw [if_neg (by simp), Int.toNat_natCast, List.getElem?_eq_getElem hk] at hE
  simp only at hE
  by_cases g2 : r.webs[k].cnt = 0
  rotate_left
  · rw [if_neg g2] at hE
    exact absurd hE hno
  rw [if_pos g2] at hE
  have HEQ := hid hE
  obtain ⟨g0, gc1, -⟩ := h.seed (List.getElem?_eq_getElem hk)
  rw [g2] at gc1
  have gl := h.webs.lt
  have c0 := h.row.cellv 0 rfl; have cl := h.row.lt
  obtain ⟨fa, hfa⟩ : ∃ fa, fa = r.webs[k].frm := ⟨_, rfl⟩
  rw [← hfa] at g0
  clear h hE hno hz g2 z1 hfa
  go_enter Tryz.func14, Tryz.ntmps14
  go_wp2_with fail
  refine (HAT.out _ NN2.out).mono ?_
  rintro e w1 ⟨rfl, rfl⟩
  go_wp2
  refine name_worldZ (p := fun W => bodyPost _ _ _ _ _ W) (fun W6 hW6 => ?_)
  have K6 : Blk W6 w.heap.size #[.int .i64 0, .int .i64 0] 34 := by
    rw [hW6]
    first | exact ((Z2.out.set 0 _).set 1 _).row (by simp) | exact ((((Z2.out.alloc _)).set 0 _).set 1 _).row (by simp) | exact Z2.out | exact Z2.out.alloc _
  have N6 : New w W6 := by
    rw [hW6]
    first | exact Mod.set (Mod.set NN2.out _ _ (.inr (Nat.le_refl _))) _ _ (.inr (Nat.le_refl _)) | exact Mod.set (Mod.set (NN2.out.alloc _) _ _ (.inr (Nat.le_refl _))) _ _ (.inr (Nat.le_refl _)) | exact NN2.out | exact NN2.out.alloc _
  have q0 := K6.cellv 0 rfl; have q1 := K6.cellv 1 rfl
  clear hW6
  exact bodyPost_ret (v := .tuple #[.agg #[.int .i64 0, .int .i64 0], .int .i64 8]) (by simp [results, Tryz.results14, go_sem, q0, q1]) rfl ⟨by rw [HEQ.out], N6⟩
set_option maxRecDepth 100000 in
set_option maxHeartbeats 8000000 in
theorem rtook_yes (R WB wc DB dc GB gc : Nat) (r : RefV) (now : Int) (k : Nat) (v : WebV) (w : World) (h : RefAt w R WB wc DB dc GB gc r) (hv : r.webs[k]? = some v) (hok : r.tookE now k = 0) :
    Calls Tryz.prog 14 #[.pointer (some ⟨R, 0, none⟩), .int .i64 now, .int .i64 k] w fun e w' => e = .returned (.tuple #[.agg #[.int .i64 v.frm, .int .i64 v.cnt], .int .i64 0]) ∧ RefAt w' R WB wc DB dc GB gc (r.tookC now k v) ∧ Mod (RefT R WB DB GB) w w' := by
  have hk := (List.getElem?_eq_some_iff.1 hv).1
  have hA : r.atE now k = 0 ∧ v.cnt ≠ 0 := by
    unfold RefV.tookE at hok
    by_cases hz : r.atE now k = 0
    · rw [if_neg (by rw [hz]; simp), Int.toNat_natCast, hv] at hok
      simp only at hok
      refine ⟨hz, fun q => ?_⟩
      rw [if_pos q] at hok
      cases hok
    · rw [if_pos hz] at hok
      exact absurd hok hz
  obtain ⟨ha0, hc0⟩ := hA
  obtain ⟨t0, t1, -, -⟩ := atE_zero ha0
  have HAT := hid (fun W (n : New w W) => ha0 ▸ rat_any R WB wc DB dc GB gc r now k W (h.new n))
  have HR := hid h; have HV := hid hv
  have hfw := h.few.1; have hcp := h.caps; have hw60 := h.few.2.1; have hnn := h.nums; have hgl := h.few.2.2
  unfold maxLen at hcp
  obtain ⟨⟨hcp1, hcp2⟩, ⟨hcp3, hcp4⟩, ⟨hcp5, hcp6⟩⟩ := hcp
  have HBL := hid h.below
  have NN2 : Hid (New w (w.alloc (.cells #[.int .i64 0, .int .i64 0] 34))) := hid ((Mod.refl _ _).alloc _)
  have Z2 : Hid (Blk (w.alloc (.cells #[.int .i64 0, .int .i64 0] 34)) w.heap.size #[.int .i64 0, .int .i64 0] 34) := hid (Blk.new _ _ _)
  obtain ⟨r1, r2, r3⟩ := h.rng v (List.mem_of_getElem? hv)
  have hcb : (v.cnt == 0) = false := by rw [beq_eq_false_iff_ne]; exact hc0
  obtain ⟨g0, g1, g2, g3, g4, g5⟩ := h.seed hv
  have gl := h.webs.lt
  have gf0 := h.webs.frz (k * 6); have gf1 := h.webs.frz (k * 6 + 1); have gf2 := h.webs.frz (k * 6 + 2); have gf3 := h.webs.frz (k * 6 + 3)
  have c0 := h.row.cellv 0 rfl; have c4 := h.row.cellv 4 rfl; have cl := h.row.lt; have cf := h.row.frz 4
  have hap := h.apart
  have hap1 := hap.1
  have HAP := hid hap
  obtain ⟨a, ha⟩ := Int.eq_ofNat_of_zero_le r1
  obtain ⟨n, hn⟩ := Int.eq_ofNat_of_zero_le r2
  rw [ha] at g0
  rw [hn] at g1 hcb
  have hTC : r.tookC now k v = ⟨r.webs.set k v.fresh, clearB r.wanted a n, fillG r.gave a k n, r.run, now⟩ := by
    unfold RefV.tookC
    rw [ha, hn]
    simp
  rw [hTC, ha, hn]
  have han : a + n ≤ r.wanted.length := by omega
  clear h hv hok ha0 hc0 r1 r2 r3 hap ha hn hTC
  go_enter Tryz.func14, Tryz.ntmps14
  go_wp2_with fail
  refine (HAT.out _ NN2.out).mono ?_
  rintro e w1 ⟨rfl, rfl⟩
  have hR1 := HBL.out w.heap.size (Nat.le_refl _)
  have hR2 := HBL.out (w.heap.size + 1) (by omega)
  have hXW : w.heap.size + 1 ≠ WB := fun e => hR2 (.inr (.inl e))
  have hXR : w.heap.size + 1 ≠ R := fun e => hR2 (.inl e)
  go_wp2
  refine name_worldZ (p := fun W => Code.wp _ _ _ _ W) (fun W5 hW5 => ?_)
  have hXl : w.heap.size + 1 < W5.heap.size := by rw [hW5]; simp
  have T1 := HR.out.time (t := now) ⟨by omega, t1⟩
  have V1 := web_put (j := 0) (x := .int .i64 0) (v' := ⟨0, v.cnt, v.failed, v.til, v.bad, v.out⟩) T1.webs HV.out (by omega) (by simp [webCells])
  have V2 := web_put (k := k) (v := ⟨0, v.cnt, v.failed, v.til, v.bad, v.out⟩) (j := 1) (x := .int .i64 0) (v' := ⟨0, 0, v.failed, v.til, v.bad, v.out⟩) V1 (List.getElem?_set_self hk) (by omega) (by simp [webCells])
  rw [List.set_set] at V2
  have V3 := web_put (k := k) (v := ⟨0, 0, v.failed, v.til, v.bad, v.out⟩) (j := 2) (x := .int .i64 0) (v' := ⟨0, 0, 0, v.til, v.bad, v.out⟩) V2 (List.getElem?_set_self hk) (by omega) (by simp [webCells])
  rw [List.set_set] at V3
  have V4 := web_put (k := k) (v := ⟨0, 0, 0, v.til, v.bad, v.out⟩) (j := 3) (x := .int .i64 0) (v' := v.fresh) V3 (List.getElem?_set_self hk) (by omega) (by simp [webCells, WebV.fresh])
  rw [List.set_set] at V4
  have MW : Mod (fun q => q = WB) (w.setCell ⟨R, 4, none⟩ (.int .i64 now)) (((((w.setCell ⟨R, 4, none⟩ (.int .i64 now)).setCell ⟨WB, k * 6, none⟩ (.int .i64 0)).setCell ⟨WB, k * 6 + 1, none⟩ (.int .i64 0)).setCell ⟨WB, k * 6 + 2, none⟩ (.int .i64 0)).setCell ⟨WB, k * 6 + 3, none⟩ (.int .i64 0)) :=
    Mod.set (S := fun q => q = WB) (Mod.set (S := fun q => q = WB) (Mod.set (S := fun q => q = WB) (Mod.set (S := fun q => q = WB) (Mod.refl _ _) ⟨WB, k * 6, none⟩ _ (.inl rfl)) ⟨WB, k * 6 + 1, none⟩ _ (.inl rfl)) ⟨WB, k * 6 + 2, none⟩ _ (.inl rfl)) ⟨WB, k * 6 + 3, none⟩ _ (.inl rfl)
  have T2 := T1.web (k := k) (v := v.fresh) V4 MW (by rw [show v.fresh.frm = 0 from rfl, show v.fresh.cnt = 0 from rfl]; simp only; omega)
  have T5 : Hid (RefAt W5 R WB wc DB dc GB gc ⟨r.webs.set k v.fresh, r.wanted, r.gave, r.run, now⟩) := hid (by rw [hW5]; exact T2.new (((Mod.refl _ _).alloc _).alloc _))
  have X5 : Hid (Blk W5 (w.heap.size + 1) #[.int .i64 a, .int .i64 n] 34) := hid (by rw [hW5]; exact Blk.newAt (by simp))
  have Z5 : Hid (Blk W5 w.heap.size #[.int .i64 0, .int .i64 0] 34) := hid (by rw [hW5]; exact (Blk.newAt (by simp)).alloc _)
  have M5 : Hid (Mod (RefT R WB DB GB) w W5) := hid (by
    rw [hW5]
    exact (((Mod.set (S := RefT R WB DB GB) (Mod.refl _ _) ⟨R, 4, none⟩ _ (.inl (.inl rfl))).trans (MW.mono (fun q _ e => .inr (.inl e)))).alloc _).alloc _)
  clear hW5 T1 V1 V2 V3 V4 MW T2 g0 g1 g2 g3 g4 g5 gl gf0 gf1 gf2 gf3 c0 c4 cl cf hXl
  go_loopw [11] (fun x wr => ∃ j : Nat, x = .int .i64 ((a + j : Nat) : Int) ∧ j ≤ n ∧ RefAt wr R WB wc DB dc GB gc ⟨r.webs.set k v.fresh, clearB r.wanted a j, fillG r.gave a k j, r.run, now⟩ ∧ Mod (RefT R WB DB GB) W5 wr) (fun x _ => a + n - (intOf x).toNat)
  case atStart => exact ⟨0, by simp, by omega, T5.out, Mod.refl _ _⟩
  case round =>
    obtain ⟨j, rfl, hj, ht, hm⟩ := hrel
    have HT := hid ht; have HM := hid hm
    have X6 := hid (hm.blk X5.out hR2); have Z6 := hid (hm.blk Z5.out hR1)
    have x0 : wr.cell? ⟨w.heap.size + 1, 0, none⟩ = some (.int .i64 a) := X6.out.cellv 0 rfl
    have x1 : wr.cell? ⟨w.heap.size + 1, 1, none⟩ = some (.int .i64 n) := X6.out.cellv 1 rfl
    have xl := X6.out.lt
    have hwq : IntKind.i64.wrap ((a : Int) + (n : Int)) = (a : Int) + (n : Int) := by rw [IntKind.wrap_i64]; omega
    obtain ⟨q, hq⟩ : ∃ q, q = a + j := ⟨_, rfl⟩
    rw [← hq]
    have HQ := hid hq
    by_cases hlt : j < n
    · have hlt2 : (q : Int) < (a : Int) + (n : Int) := by omega
      have hql : q < (clearB r.wanted a j).length := by rw [clearB_len]; omega
      have hqg : q < (fillG r.gave a k j).length := by rw [fillG_len]; omega
      have hqI : (q : Int) < (r.wanted.length : Int) := by omega
      have hqJ : (q : Int) < (r.gave.length : Int) := by omega
      have c1 : wr.cell? ⟨R, 1, none⟩ = some (.slice (some ⟨DB, 0, none⟩) r.wanted.length dc) := by have := ht.row.cellv 1 rfl; rw [clearB_len] at this; exact this
      have c2 : wr.cell? ⟨R, 2, none⟩ = some (.slice (some ⟨GB, 0, none⟩) r.gave.length gc) := by have := ht.row.cellv 2 rfl; rw [fillG_len] at this; exact this
      have cl := ht.row.lt
      have w0 := ht.wish_at (i := q) hql; have wf := ht.want.frz q; have wl := ht.want.lt
      have v0 := ht.give_at (i := q) hqg; have vf := ht.gave.frz q; have vl := ht.gave.lt
      obtain ⟨b1, hb1⟩ : ∃ b1, b1 = (clearB r.wanted a j)[q] := ⟨_, rfl⟩
      obtain ⟨n1, hn1⟩ : ∃ n1, n1 = (fillG r.gave a k j)[q] := ⟨_, rfl⟩
      simp only at w0 v0
      rw [← hb1] at w0
      rw [← hn1] at v0
      obtain ⟨p1, p2, p3, p4, p5, p6⟩ := HAP.out
      have hR3 : w.heap.size + 1 ≠ DB := fun e => hR2 (.inr (.inr (.inl e)))
      have hR4 : w.heap.size + 1 ≠ GB := fun e => hR2 (.inr (.inr (.inr e)))
      have d1 := blk_cell (p := ⟨DB, q, none⟩) (u := .bool false) p2 c1; have d2 := blk_cell (p := ⟨DB, q, none⟩) (u := .bool false) p2 c2
      have dv0 := blk_cell (p := ⟨DB, q, none⟩) (u := .bool false) p6 v0
      have e1 := blk_cell (p := ⟨GB, q, none⟩) (u := .int .i64 k) p3 d1; have e2 := blk_cell (p := ⟨GB, q, none⟩) (u := .int .i64 k) p3 d2
      have S1 := (ht.wish (i := q) hql false).give (i := q) (by simp only [List.length_set]; exact hql) k
      have HS1 := hid S1
      clear ht hm S1 hb1 hn1 hql hqg hq
      go_wp2_with fail
      refine wp_region_held_drew (S := (fun w' => w'.cell? ⟨R, 1, none⟩ = some (.slice (some ⟨DB, 0, none⟩) r.wanted.length dc) ∧ w'.cell? ⟨R, 2, none⟩ = some (.slice (some ⟨GB, 0, none⟩) r.gave.length gc))) (by kernel_rfl) ⟨c1, c2⟩ (fun hHeld => ?_)
      refine wpAnyH_take (i := 0) (v := ?_) (by simp only [List.getElem?_toArray, List.getElem?_cons_succ, List.getElem?_cons_zero]; rfl) (by kernel_rfl) (by kernel_rfl) (by kernel_rfl) (by intro _ _ _ h; exact h) (Or.inl ⟨by rfl, ?_⟩) (by assumption) ?_
      rotate_left
      · intro w hSw
        (try dsimp only at hSw)
        first | (go_simp; done) | (go_simp; with_reducible rfl) | with_reducible rfl
      simp only [Act.put, List.setIfInBounds_toArray, List.set_cons_zero, List.set_cons_succ]
      refine wpAnyH_take (i := 1) (v := ?_) (by simp only [List.getElem?_toArray, List.getElem?_cons_succ, List.getElem?_cons_zero]; rfl) (by kernel_rfl) (by kernel_rfl) (by kernel_rfl) (by intro _ _ _ h; exact h) (Or.inl ⟨by rfl, ?_⟩) (by assumption) ?_
      rotate_left
      · intro w hSw
        (try dsimp only at hSw)
        first | (go_simp; done) | (go_simp; with_reducible rfl) | with_reducible rfl
      simp only [Act.put, List.setIfInBounds_toArray, List.set_cons_zero, List.set_cons_succ]
      refine wpAnyH_take (i := 2) (v := ?_) (by simp only [List.getElem?_toArray, List.getElem?_cons_succ, List.getElem?_cons_zero]; rfl) (by kernel_rfl) (by kernel_rfl) (by kernel_rfl) (by intro _ _ _ h; exact h) (Or.inl ⟨by rfl, ?_⟩) (by assumption) ?_
      rotate_left
      · intro w hSw
        (try dsimp only at hSw)
        first | (go_simp; done) | (go_simp; with_reducible rfl) | with_reducible rfl
      simp only [Act.put, List.setIfInBounds_toArray, List.set_cons_zero, List.set_cons_succ]
      refine wpAnyH_take (i := 3) (v := ?_) (by simp only [List.getElem?_toArray, List.getElem?_cons_succ, List.getElem?_cons_zero]; rfl) (by kernel_rfl) (by kernel_rfl) (by kernel_rfl) (by intro _ _ _ h; exact h) (Or.inl ⟨by rfl, ?_⟩) (by assumption) ?_
      rotate_left
      · intro w hSw
        (try dsimp only at hSw)
        first | (go_simp; done) | (go_simp; with_reducible rfl) | with_reducible rfl
      simp only [Act.put, List.setIfInBounds_toArray, List.set_cons_zero, List.set_cons_succ]
      refine wpAnyH_take (i := 4) (v := ?_) (by simp only [List.getElem?_toArray, List.getElem?_cons_succ, List.getElem?_cons_zero]; rfl) (by kernel_rfl) (by kernel_rfl) (by kernel_rfl) (by intro _ _ _ h; exact h) (Or.inl ⟨by rfl, ?_⟩) (by assumption) ?_
      rotate_left
      · intro w hSw
        (try dsimp only at hSw)
        first | (go_simp; done) | (go_simp; with_reducible rfl) | with_reducible rfl
      simp only [Act.put, List.setIfInBounds_toArray, List.set_cons_zero, List.set_cons_succ]
      refine wpAnyH_take (i := 5) (v := ?_) (by simp only [List.getElem?_toArray, List.getElem?_cons_succ, List.getElem?_cons_zero]; rfl) (by kernel_rfl) (by kernel_rfl) (by kernel_rfl) (by intro _ _ _ h; exact h) (Or.inl ⟨by rfl, ?_⟩) (by assumption) ?_
      rotate_left
      · intro w hSw
        (try dsimp only at hSw)
        first | (go_simp; done) | (go_simp; with_reducible rfl) | with_reducible rfl
      simp only [Act.put, List.setIfInBounds_toArray, List.set_cons_zero, List.set_cons_succ]
      refine wpAnyH_take (i := 6) (v := ?_) (by simp only [List.getElem?_toArray, List.getElem?_cons_succ, List.getElem?_cons_zero]; rfl) (by kernel_rfl) (by kernel_rfl) (by kernel_rfl) (by intro _ _ _ h; exact h) (Or.inl ⟨by rfl, ?_⟩) (by assumption) ?_
      rotate_left
      · intro w hSw
        (try dsimp only at hSw)
        first | (go_simp; done) | (go_simp; with_reducible rfl) | with_reducible rfl
      simp only [Act.put, List.setIfInBounds_toArray, List.set_cons_zero, List.set_cons_succ]
      refine wpAnyH_take (i := 7) (v := ?_) (by simp only [List.getElem?_toArray, List.getElem?_cons_succ, List.getElem?_cons_zero]; rfl) (by kernel_rfl) (by kernel_rfl) (by kernel_rfl) (by intro _ _ _ h; exact h) (Or.inl ⟨by rfl, ?_⟩) (by assumption) ?_
      rotate_left
      · intro w hSw
        (try dsimp only at hSw)
        first | (go_simp; done) | (go_simp; with_reducible rfl) | with_reducible rfl
      simp only [Act.put, List.setIfInBounds_toArray, List.set_cons_zero, List.set_cons_succ]
      refine wpAnyH_take (i := 8) (v := ?_) (by simp only [List.getElem?_toArray, List.getElem?_cons_succ, List.getElem?_cons_zero]; rfl) (by kernel_rfl) (by kernel_rfl) (by kernel_rfl) (by intro _ _ _ h; exact h) (Or.inl ⟨by rfl, ?_⟩) (by assumption) ?_
      rotate_left
      · intro w hSw
        (try dsimp only at hSw)
        first | (go_simp; done) | (go_simp; with_reducible rfl) | with_reducible rfl
      simp only [Act.put, List.setIfInBounds_toArray, List.set_cons_zero, List.set_cons_succ]
      refine wpAnyH_take (i := 9) (v := ?_) (by simp only [List.getElem?_toArray, List.getElem?_cons_succ, List.getElem?_cons_zero]; rfl) (by kernel_rfl) (by kernel_rfl) (by kernel_rfl) (by intro _ _ _ h; exact h) (Or.inl ⟨by rfl, ?_⟩) (by assumption) ?_
      rotate_left
      · intro w hSw
        (try dsimp only at hSw)
        first | (go_simp; done) | (go_simp; with_reducible rfl) | with_reducible rfl
      simp only [Act.put, List.setIfInBounds_toArray, List.set_cons_zero, List.set_cons_succ]
      refine wpAnyH_take (i := 10) (v := ?_) (by simp only [List.getElem?_toArray, List.getElem?_cons_succ, List.getElem?_cons_zero]; rfl) (by kernel_rfl) (by kernel_rfl) (by kernel_rfl) (by intro _ _ _ h; exact h) (Or.inl ⟨by rfl, ?_⟩) (by assumption) ?_
      rotate_left
      · intro w hSw
        (try dsimp only at hSw)
        first | (go_simp; done) | (go_simp; with_reducible rfl) | with_reducible rfl
      simp only [Act.put, List.setIfInBounds_toArray, List.set_cons_zero, List.set_cons_succ]
      refine wpAnyH_take (i := 11) (v := ?_) (by simp only [List.getElem?_toArray, List.getElem?_cons_succ, List.getElem?_cons_zero]; rfl) (by kernel_rfl) (by kernel_rfl) (by kernel_rfl) (by intro _ _ _ h; exact h) (Or.inl ⟨by rfl, ?_⟩) (by assumption) ?_
      rotate_left
      · intro w hSw
        (try dsimp only at hSw)
        first | (go_simp; done) | (go_simp; with_reducible rfl) | with_reducible rfl
      simp only [Act.put, List.setIfInBounds_toArray, List.set_cons_zero, List.set_cons_succ]
      refine wpAnyH_ready (rs := [12]) (by kernel_rfl) (by simp) ?_
      refine AllReadyH.cons (by simp only [List.getElem?_toArray, List.getElem?_cons_succ, List.getElem?_cons_zero]; rfl) (fun K hK => ?_) AllReadyH.nil
      go_simp
      refine hK.out _ _ ⟨d1, d2⟩ (fun hHeld12 => ?_)
      clear hK K
      try simp only [Act.put, List.setIfInBounds_toArray, List.set_cons_zero, List.set_cons_succ]
      refine wpAnyH_take (i := 13) (v := ?_) (by simp only [List.getElem?_toArray, List.getElem?_cons_succ, List.getElem?_cons_zero]; rfl) (by kernel_rfl) (by kernel_rfl) (by kernel_rfl) (by intro _ _ _ h; exact h) (Or.inl ⟨by rfl, ?_⟩) (by assumption) ?_
      rotate_left
      · intro w hSw
        (try dsimp only at hSw)
        first | (go_simp; done) | (go_simp; with_reducible rfl) | with_reducible rfl
      simp only [Act.put, List.setIfInBounds_toArray, List.set_cons_zero, List.set_cons_succ]
      refine wpAnyH_ready (rs := [14]) (by kernel_rfl) (by simp) ?_
      refine AllReadyH.cons (by simp only [List.getElem?_toArray, List.getElem?_cons_succ, List.getElem?_cons_zero]; rfl) (fun K hK => ?_) AllReadyH.nil
      go_simp
      refine hK.out _ _ ⟨e1, e2⟩ (fun hHeld14 => ?_)
      clear hK K
      try simp only [Act.put, List.setIfInBounds_toArray, List.set_cons_zero, List.set_cons_succ]
      refine wpAnyH_done (by kernel_rfl) ?_ _
      refine name_worldZ (p := fun W => Exit.inBlock _ _ _ _ W) (fun W6 hW6 => ?_)
      have T6 : Hid (RefAt W6 R WB wc DB dc GB gc ⟨r.webs.set k v.fresh, clearB r.wanted a (j + 1), fillG r.gave a k (j + 1), r.run, now⟩) := hid (by
        have := HS1.out.new (Mod.refl (fun _ => False) _).drew
        rw [hW6]
        rw [show clearB r.wanted a (j + 1) = (clearB r.wanted a j).set q false by rw [HQ.out]; rfl, show fillG r.gave a k (j + 1) = (fillG r.gave a k j).set q k by rw [HQ.out]; rfl]
        exact this)
      have M6 : Hid (Mod (RefT R WB DB GB) W5 W6) := hid (by
        rw [hW6]
        exact (Mod.set (S := RefT R WB DB GB) (Mod.set (S := RefT R WB DB GB) HM.out ⟨DB, q, none⟩ _ (.inl (.inr (.inr (.inl rfl))))) ⟨GB, q, none⟩ _ (.inl (.inr (.inr (.inr rfl))))).drew)
      clear hW6 c1 c2 cl w0 wf wl v0 vf vl d1 d2 dv0 e1 e2 x0 x1 xl
      go_wp2
      exact ⟨⟨j + 1, by have := HQ.out; simp; omega, by omega, T6.out, M6.out⟩, by have := HQ.out; simp [intOf]; omega⟩
    · obtain rfl : j = n := by omega
      have hlt2 : ¬ (q : Int) < (a : Int) + (j : Int) := by omega
      have z0 : wr.cell? ⟨w.heap.size, 0, none⟩ = some (.int .i64 0) := Z6.out.cellv 0 rfl
      have z1 : wr.cell? ⟨w.heap.size, 1, none⟩ = some (.int .i64 0) := Z6.out.cellv 1 rfl
      have zl := Z6.out.lt; have zf0 := Z6.out.frz 0; have zf1 := Z6.out.frz 1
      clear ht hm hq
      go_wp2
      refine name_worldZ (p := fun W => bodyPost _ _ _ _ _ W) (fun W7 hW7 => ?_)
      have Z7 : Blk W7 w.heap.size #[.int .i64 a, .int .i64 j] 34 := by rw [hW7]; exact ((Z6.out.set 0 _).set 1 _).row (by simp)
      have M7 : Mod (fun q => q = w.heap.size) wr W7 := by rw [hW7]; exact Mod.set (S := fun q => q = w.heap.size) (Mod.set (S := fun q => q = w.heap.size) (Mod.refl _ _) ⟨w.heap.size, 0, none⟩ _ (.inl rfl)) ⟨w.heap.size, 1, none⟩ _ (.inl rfl)
      have q0 := Z7.cellv 0 rfl; have q1 := Z7.cellv 1 rfl
      clear hW7
      refine bodyPost_ret (v := .tuple #[.agg #[.int .i64 a, .int .i64 j], .int .i64 0]) (by simp [results, Tryz.results14, go_sem, q0, q1]) rfl ⟨rfl, ?_, ?_⟩
      · exact HT.out.mod M7 (fun q e e2 => hR1 (by have e3 : q = w.heap.size := e2; rw [← e3]; exact e))
      · exact (M5.out.trans HM.out).trans' M7 (fun q hq e => by have e2 : q = w.heap.size := e; omega)
end Go.Proofs.YtnhgichiedninaaGreatDoor
