/-
  Several texts in one, in their build order. The walk of Next (the reference's client of web seeds). Conditions: the client lies as told.
-/
import Derived.Test.YtnhgichiedninaaGreatDoorM30
namespace Go.Proofs.YtnhgichiedninaaGreatDoor
set_option linter.unusedSimpArgs false
set_option linter.unusedVariables false
open Go.RowKit Go.Shelf

def freeW (now : Int) (v : WebV) : Bool := !v.out && decide (v.cnt = 0) && decide (v.til ≤ now)
def RefV.nIdx (r : RefV) (now : Int) : Option Nat := r.webs.findIdx? (freeW now)
def RefV.nextE (r : RefV) (now : Int) : Int := if r.atE now 0 ≠ 0 then r.atE now 0 else if decide (0 < r.best.2) && (r.nIdx now).isSome then 0 else 8
def WebV.start (v : WebV) (a b : Int) : WebV := ⟨a, b, v.failed, v.til, v.bad, v.out⟩
def RefV.nextC (r : RefV) (now : Int) : RefV := match r.nIdx now with
  | some i => match r.webs[i]? with
    | some v => { r with now := now, webs := r.webs.set i (v.start r.best.1 r.best.2) }
    | none => r
  | none => r
theorem idx_atW {r : RefV} {now : Int} {k : Nat} {v : WebV} (hv : r.webs[k]? = some v) (hf : freeW now v = true) (hb : ∀ j u, j < k → r.webs[j]? = some u → freeW now u = false) : r.nIdx now = some k := by
  unfold RefV.nIdx
  obtain ⟨hl, he⟩ := List.getElem?_eq_some_iff.1 hv
  rw [List.findIdx?_eq_some_iff_getElem]
  exact ⟨hl, by rw [he]; exact hf, fun j hj => by rw [hb j _ hj (List.getElem?_eq_getElem (by omega))]; simp⟩
theorem idx_noneW {r : RefV} {now : Int} {k : Nat} (hk : ¬ k < r.webs.length) (hb : ∀ j u, j < k → r.webs[j]? = some u → freeW now u = false) : r.nIdx now = none := by
  unfold RefV.nIdx
  rw [List.findIdx?_eq_none_iff]
  intro u hu
  obtain ⟨j, hj⟩ := List.getElem?_of_mem hu
  exact hb j u (by have := (List.getElem?_eq_some_iff.1 hj).1; omega) hj
set_option maxRecDepth 100000 in
set_option maxHeartbeats 8000000 in
theorem rnext_any (R WB wc DB dc GB gc : Nat) (r : RefV) (now : Int) (w : World) (h : RefAt w R WB wc DB dc GB gc r) (hb : 0 ≤ r.best.2 ∧ (r.best.1 : Int) + r.best.2 ≤ r.wanted.length) :
    Calls Tryz.prog 21 #[.pointer (some ⟨R, 0, none⟩), .int .i64 now] w fun e w' => (r.nextE now ≠ 0 ∧ e = .returned (.tuple #[.int .i64 0, .agg #[.int .i64 0, .int .i64 0], .int .i64 (r.nextE now)]) ∧ New w w') ∨
      (r.nextE now = 0 ∧ ∃ k : Nat, r.nIdx now = some k ∧ e = .returned (.tuple #[.int .i64 k, .agg #[.int .i64 r.best.1, .int .i64 r.best.2], .int .i64 0]) ∧ RefAt w' R WB wc DB dc GB gc (r.nextC now) ∧ Mod (RefT R WB DB GB) w w') := by
  have HR := hid h
  have HAT := hid (fun W (n : New w W) => rat_any R WB wc DB dc GB gc r now 0 W (h.new n))
  have HLO := hid (fun W (n : New w W) => rlongest_any R WB wc DB dc GB gc r W (h.new n))
  have hfw := h.few.1; have hcp := h.caps.1; have hw60 := h.few.2.1; have hnn := h.nums
  unfold maxLen at hcp
  have HBL := hid h.below
  obtain ⟨E, hE⟩ : ∃ E, E = r.nextE now := ⟨_, rfl⟩
  have HEE := hid hE
  obtain ⟨A, hA⟩ : ∃ A, A = r.atE now 0 := ⟨_, rfl⟩
  have hAA := hA
  rw [← hA] at HAT
  have hE2 : E = if A ≠ 0 then A else if decide (0 < r.best.2) && (r.nIdx now).isSome then 0 else 8 := by rw [hE, hA]; rfl
  obtain ⟨a, ha⟩ : ∃ a, a = r.best.1 := ⟨_, rfl⟩
  obtain ⟨b, hb2⟩ : ∃ b, b = r.best.2 := ⟨_, rfl⟩
  rw [← ha, ← hb2] at HLO hb
  rw [← hb2] at hE2
  have HA1 := hid ha; have HB1 := hid hb2
  rw [← hE, ← ha, ← hb2]
  have NN2 : Hid (New w (w.alloc (.cells #[.int .i64 0, .int .i64 0] 34))) := hid ((Mod.refl _ _).alloc _)
  have Z2 : Hid (Blk (w.alloc (.cells #[.int .i64 0, .int .i64 0] 34)) w.heap.size #[.int .i64 0, .int .i64 0] 34) := hid (Blk.new _ _ _)
  clear h ha hb2 hE
  by_cases g1 : A = 0
  rotate_left
  · rw [if_pos g1] at hE2
    have hb1 : (A != 0) = true := by rw [bne_iff_ne]; exact g1
    have HE := hid (show E ≠ 0 by rw [hE2]; exact g1)
    have HEQ := hid hE2
    clear hA hAA hE2 g1
    go_enter Tryz.func21, Tryz.ntmps21
    go_wp2_with fail
    refine (HAT.out _ NN2.out).mono ?_
    rintro e w1 ⟨rfl, rfl⟩
    go_wp2
    refine name_worldZ (p := fun W => bodyPost _ _ _ _ _ W) (fun W6 hW6 => ?_)
    have K6 : Blk W6 w.heap.size #[.int .i64 0, .int .i64 0] 34 := by
      rw [hW6]
      first | exact ((Z2.out.set 0 _).set 1 _).row (by simp) | exact Z2.out
    have N6 : New w W6 := by
      rw [hW6]
      first | exact Mod.set (Mod.set NN2.out _ _ (.inr (Nat.le_refl _))) _ _ (.inr (Nat.le_refl _)) | exact NN2.out
    have q0 := K6.cellv 0 rfl; have q1 := K6.cellv 1 rfl
    clear hW6
    exact bodyPost_ret (v := .tuple #[.int .i64 0, .agg #[.int .i64 0, .int .i64 0], .int .i64 A]) (by simp [results, Tryz.results21, go_sem, q0, q1]) rfl (.inl ⟨HE.out, by rw [HEQ.out], N6⟩)
  subst g1
  have hnow : r.now ≤ now ∧ now ≤ 1000000000 := by
    have h2 : r.atE now 0 = 0 := hA.symm
    unfold RefV.atE at h2
    split at h2
    · cases h2
    · omega
  rw [if_neg (by simp)] at hE2
  have HE2 := hid hE2
  clear hA hAA hE2
  go_enter Tryz.func21, Tryz.ntmps21
  go_wp2_with (first | (go_at_call 44; refine (HAT.out _ NN2.out).mono ?_; rintro e w1 ⟨rfl, rfl⟩) | fail)
  refine (HLO.out _ NN2.out).mono ?_
  rintro e w1 ⟨rfl, n1⟩
  have N1 : Hid (New w w1) := hid (NN2.out.trans n1)
  have Z1 := hid (New.blk n1 Z2.out)
  have c0 := (HR.out.new N1.out).row.cellv 0 rfl; have cl := (HR.out.new N1.out).row.lt
  clear n1 NN2 Z2
  go_wp2
  obtain ⟨w2, h2⟩ : ∃ w2, w2 = w1.alloc (.cells #[.int .i64 a, .int .i64 b] 34) := ⟨_, rfl⟩
  rw [← h2]
  have X2 : Hid (Blk w2 w1.heap.size #[.int .i64 a, .int .i64 b] 34) := hid (by rw [h2]; exact Blk.new _ _ _)
  have Z3 : Hid (Blk w2 w.heap.size #[.int .i64 0, .int .i64 0] 34) := hid (by rw [h2]; exact Z1.out.alloc _)
  have N2 : Hid (New w w2) := hid (by rw [h2]; exact N1.out.alloc _)
  have hXR : ¬ RefT R WB DB GB w1.heap.size := HBL.out _ N1.out.size
  have hXZ : w1.heap.size ≠ w.heap.size := by have := Z1.out.lt; omega
  obtain ⟨X, hX⟩ : ∃ X, X = w1.heap.size := ⟨_, rfl⟩
  rw [← hX] at X2 hXR hXZ
  rw [← hX]
  have hZR : ¬ RefT R WB DB GB w.heap.size := HBL.out _ (Nat.le_refl _)
  clear h2 hX c0 cl
  go_loopw [25] (fun x wr => ∃ k : Nat, x = .int .i64 k ∧ k ≤ r.webs.length ∧ (0 < b → ∀ j u, j < k → r.webs[j]? = some u → freeW now u = false) ∧ New w2 wr) (fun x _ => r.webs.length - (intOf x).toNat)
  case atStart => exact ⟨0, rfl, by omega, by intros; omega, Mod.refl _ _⟩
  case round =>
    obtain ⟨k, rfl, hk, hfr, hn⟩ := hrel
    have HFR := hid hfr; have HN := hid hn
    have HRW := hid (HR.out.new (N2.out.trans hn))
    have X3 := hid (New.blk hn X2.out); have Z4 := hid (New.blk hn Z3.out)
    clear hfr hn
    by_cases hlt : k < r.webs.length
    · obtain ⟨v, hv⟩ : ∃ v, r.webs[k]? = some v := ⟨_, List.getElem?_eq_getElem hlt⟩
      obtain ⟨g0, g1, g2, g3, g4, g5⟩ := HRW.out.seed hv
      have gl := HRW.out.webs.lt
      have HV := hid hv
      have x0 := X3.out.cellv 0 rfl; have x1 := X3.out.cellv 1 rfl; have xl := X3.out.lt
      clear hv
      by_cases hf : 0 < b ∧ freeW now v = true
      · obtain ⟨hb0, hf⟩ := hf
        have hf' : v.out = false ∧ v.cnt = 0 ∧ v.til ≤ now := by
          unfold freeW at hf
          simpa [and_assoc] using hf
        obtain ⟨f1, f2, f3⟩ := hf'
        have HID := hid (idx_atW HV.out hf (HFR.out hb0))
        have HNC := hid (show r.nextC now = { r with now := now, webs := r.webs.set k (v.start a b) } by unfold RefV.nextC; rw [HID.out]; simp only [HV.out, HA1.out, HB1.out])
        rw [f1] at g5
        rw [f2] at g1
        have F1 := hid f1; have F2 := hid f2
        clear hf f1 f2
        go_wp2_with fail
        obtain ⟨w5, h5⟩ : ∃ w5, w5 = wr.alloc (.cells #[.int .i64 v.frm, .int .i64 0, .int .i64 v.failed, .int .i64 v.til, .int .i64 v.bad, .bool false] 98) := ⟨_, rfl⟩
        rw [← h5]
        have N35 : New wr w5 := by rw [h5]; exact (Mod.refl _ _).alloc _
        have HRW5 := hid (HRW.out.new N35)
        have X5 := hid (New.blk N35 X3.out); have Z5 := hid (New.blk N35 Z4.out)
        have N5 : Hid (New w w5) := hid ((N2.out.trans HN.out).trans N35)
        clear h5 N35 g0 g1 g2 g3 g4 g5 gl x0 x1 xl
        obtain ⟨g0, g1, g2, g3, g4, g5⟩ := HRW5.out.seed HV.out
        have gl := HRW5.out.webs.lt
        have x0 : w5.cell? ⟨X, 0, none⟩ = some (.int .i64 a) := X5.out.cellv 0 rfl
        have x1 : w5.cell? ⟨X, 1, none⟩ = some (.int .i64 b) := X5.out.cellv 1 rfl
        have xl := X5.out.lt
        have c0 : w5.cell? ⟨R, 0, none⟩ = some (.slice (some ⟨WB, 0, none⟩) r.webs.length wc) := HRW5.out.row.cellv 0 rfl
        have c4 : w5.cell? ⟨R, 4, none⟩ = some (.int .i64 r.now) := HRW5.out.row.cellv 4 rfl
        have cl := HRW5.out.row.lt; have cf := HRW5.out.row.frz 4
        obtain ⟨a1, a2, a3, a4, a5, a6⟩ := HRW5.out.apart
        have hXnR : X ≠ R := fun e => hXR (.inl e)
        have hXnW : X ≠ WB := fun e => hXR (.inr (.inl e))
        have T1 := HRW5.out.time (t := now) ⟨by omega, hnow.2⟩
        have V1 : RowAt ((w5.setCell ⟨R, 4, none⟩ (.int .i64 now)).setCell ⟨WB, k * 6, none⟩ (.int .i64 a)) WB 98 (webRow (r.webs.set k ⟨a, v.cnt, v.failed, v.til, v.bad, v.out⟩)) := by
          have := T1.webs.set (i := k * 6) (by rw [webRow_len]; simp only; omega) (.int .i64 a)
          rwa [show k * 6 = k * 6 + 0 by omega, webRow_set (j := 0) HV.out (by omega) (s' := ⟨a, v.cnt, v.failed, v.til, v.bad, v.out⟩) (by simp [webCells])] at this
        have V2 : RowAt (((w5.setCell ⟨R, 4, none⟩ (.int .i64 now)).setCell ⟨WB, k * 6, none⟩ (.int .i64 a)).setCell ⟨WB, k * 6 + 1, none⟩ (.int .i64 b)) WB 98 (webRow (r.webs.set k (v.start a b))) := by
          have := V1.set (i := k * 6 + 1) (by rw [webRow_len]; simp; omega) (.int .i64 b)
          rw [webRow_set (j := 1) (s := ⟨a, v.cnt, v.failed, v.til, v.bad, v.out⟩) (List.getElem?_set_self hlt) (by omega) (s' := v.start a b) (by simp [webCells, WebV.start]), List.set_set] at this
          exact this
        have T2 := hid (T1.web (k := k) (v := v.start a b) V2 (Mod.set (S := fun q => q = WB) (Mod.set (S := fun q => q = WB) (Mod.refl _ _) ⟨WB, k * 6, none⟩ _ (.inl rfl)) ⟨WB, k * 6 + 1, none⟩ _ (.inl rfl)) (by rw [show (v.start a b).frm = a from rfl, show (v.start a b).cnt = b from rfl]; simp only; omega))
        have d0 : (w5.setCell ⟨R, 4, none⟩ (.int .i64 now)).cell? ⟨R, 0, none⟩ = some (.slice (some ⟨WB, 0, none⟩) r.webs.length wc) := T1.row.cellv 0 rfl
        have dx0 := blk_cell (p := ⟨R, 4, none⟩) (u := .int .i64 now) (fun e => hXnR e.symm) x0; have dx1 := blk_cell (p := ⟨R, 4, none⟩) (u := .int .i64 now) (fun e => hXnR e.symm) x1
        have e0 := blk_cell (p := ⟨WB, k * 6 + 1, none⟩) (u := .int .i64 b) a1 (blk_cell (p := ⟨WB, k * 6, none⟩) (u := .int .i64 a) a1 d0)
        have ex0 := blk_cell (p := ⟨WB, k * 6 + 1, none⟩) (u := .int .i64 b) (fun e => hXnW e.symm) (blk_cell (p := ⟨WB, k * 6, none⟩) (u := .int .i64 a) (fun e => hXnW e.symm) dx0)
        have ex1 := blk_cell (p := ⟨WB, k * 6 + 1, none⟩) (u := .int .i64 b) (fun e => hXnW e.symm) (blk_cell (p := ⟨WB, k * 6, none⟩) (u := .int .i64 a) (fun e => hXnW e.symm) dx1)
        have gf0 := HRW5.out.webs.frz (k * 6); have gf1 := HRW5.out.webs.frz (k * 6 + 1)
        have hg0 := blk_cell (p := ⟨R, 4, none⟩) (u := .int .i64 now) (fun e => a1 e.symm) g0; have hg1 := blk_cell (p := ⟨R, 4, none⟩) (u := .int .i64 now) (fun e => a1 e.symm) g1
        clear T1 V1 V2
        refine wp_region_held_drew (S := (fun w' => w'.cell? ⟨R, 0, none⟩ = some (.slice (some ⟨WB, 0, none⟩) r.webs.length wc) ∧ w'.cell? ⟨X, 0, none⟩ = some (.int .i64 a) ∧ w'.cell? ⟨X, 1, none⟩ = some (.int .i64 b))) (by kernel_rfl) ⟨c0, x0, x1⟩ (fun hHeld => ?_)
        refine wpAnyH_take (i := 0) (v := ?_) (by simp only [List.getElem?_toArray, List.getElem?_cons_succ, List.getElem?_cons_zero]; rfl) (by kernel_rfl) (by kernel_rfl) (by kernel_rfl) (by intro _ _ _ h; exact h) (Or.inl ⟨by rfl, ?_⟩) (by assumption) ?_
        rotate_left
        · intro w hSw
          (try dsimp only at hSw)
          first | (go_simp; done) | (go_simp; with_reducible rfl) | with_reducible rfl
        simp only [Act.put, List.setIfInBounds_toArray, List.set_cons_zero, List.set_cons_succ]
        refine wpAnyH_take (i := 1) (v := ?_) (by simp only [List.getElem?_toArray, List.getElem?_cons_succ, List.getElem?_cons_zero]; rfl) (by kernel_rfl) (by kernel_rfl) (by kernel_rfl) (by intro _ _ _ h; exact h) (Or.inl ⟨by rfl, ?_⟩) (by assumption) ?_
        rotate_left
        · intro w hSw
          (try dsimp only at hSw)
          first | (go_simp; done) | (go_simp; with_reducible rfl) | with_reducible rfl
        simp only [Act.put, List.setIfInBounds_toArray, List.set_cons_zero, List.set_cons_succ]
        refine wpAnyH_take (i := 2) (v := ?_) (by simp only [List.getElem?_toArray, List.getElem?_cons_succ, List.getElem?_cons_zero]; rfl) (by kernel_rfl) (by kernel_rfl) (by kernel_rfl) (by intro _ _ _ h; exact h) (Or.inl ⟨by rfl, ?_⟩) (by assumption) ?_
        rotate_left
        · intro w hSw
          (try dsimp only at hSw)
          first | (go_simp; done) | (go_simp; with_reducible rfl) | with_reducible rfl
        simp only [Act.put, List.setIfInBounds_toArray, List.set_cons_zero, List.set_cons_succ]
        refine wpAnyH_take (i := 3) (v := ?_) (by simp only [List.getElem?_toArray, List.getElem?_cons_succ, List.getElem?_cons_zero]; rfl) (by kernel_rfl) (by kernel_rfl) (by kernel_rfl) (by intro _ _ _ h; exact h) (Or.inl ⟨by rfl, ?_⟩) (by assumption) ?_
        rotate_left
        · intro w hSw
          (try dsimp only at hSw)
          first | (go_simp; done) | (go_simp; with_reducible rfl) | with_reducible rfl
        simp only [Act.put, List.setIfInBounds_toArray, List.set_cons_zero, List.set_cons_succ]
        refine wpAnyH_take (i := 4) (v := ?_) (by simp only [List.getElem?_toArray, List.getElem?_cons_succ, List.getElem?_cons_zero]; rfl) (by kernel_rfl) (by kernel_rfl) (by kernel_rfl) (by intro _ _ _ h; exact h) (Or.inl ⟨by rfl, ?_⟩) (by assumption) ?_
        rotate_left
        · intro w hSw
          (try dsimp only at hSw)
          first | (go_simp; done) | (go_simp; with_reducible rfl) | with_reducible rfl
        simp only [Act.put, List.setIfInBounds_toArray, List.set_cons_zero, List.set_cons_succ]
        refine wpAnyH_take (i := 5) (v := ?_) (by simp only [List.getElem?_toArray, List.getElem?_cons_succ, List.getElem?_cons_zero]; rfl) (by kernel_rfl) (by kernel_rfl) (by kernel_rfl) (by intro _ _ _ h; exact h) (Or.inl ⟨by rfl, ?_⟩) (by assumption) ?_
        rotate_left
        · intro w hSw
          (try dsimp only at hSw)
          first | (go_simp; done) | (go_simp; with_reducible rfl) | with_reducible rfl
        simp only [Act.put, List.setIfInBounds_toArray, List.set_cons_zero, List.set_cons_succ]
        refine wpAnyH_take (i := 6) (v := ?_) (by simp only [List.getElem?_toArray, List.getElem?_cons_succ, List.getElem?_cons_zero]; rfl) (by kernel_rfl) (by kernel_rfl) (by kernel_rfl) (by intro _ _ _ h; exact h) (Or.inl ⟨by rfl, ?_⟩) (by assumption) ?_
        rotate_left
        · intro w hSw
          (try dsimp only at hSw)
          first | (go_simp; done) | (go_simp; with_reducible rfl) | with_reducible rfl
        simp only [Act.put, List.setIfInBounds_toArray, List.set_cons_zero, List.set_cons_succ]
        refine wpAnyH_take (i := 7) (v := ?_) (by simp only [List.getElem?_toArray, List.getElem?_cons_succ, List.getElem?_cons_zero]; rfl) (by kernel_rfl) (by kernel_rfl) (by kernel_rfl) (by intro _ _ _ h; exact h) (Or.inl ⟨by rfl, ?_⟩) (by assumption) ?_
        rotate_left
        · intro w hSw
          (try dsimp only at hSw)
          first | (go_simp; done) | (go_simp; with_reducible rfl) | with_reducible rfl
        simp only [Act.put, List.setIfInBounds_toArray, List.set_cons_zero, List.set_cons_succ]
        refine wpAnyH_take (i := 8) (v := ?_) (by simp only [List.getElem?_toArray, List.getElem?_cons_succ, List.getElem?_cons_zero]; rfl) (by kernel_rfl) (by kernel_rfl) (by kernel_rfl) (by intro _ _ _ h; exact h) (Or.inl ⟨by rfl, ?_⟩) (by assumption) ?_
        rotate_left
        · intro w hSw
          (try dsimp only at hSw)
          first | (go_simp; done) | (go_simp; with_reducible rfl) | with_reducible rfl
        simp only [Act.put, List.setIfInBounds_toArray, List.set_cons_zero, List.set_cons_succ]
        refine wpAnyH_take (i := 9) (v := ?_) (by simp only [List.getElem?_toArray, List.getElem?_cons_succ, List.getElem?_cons_zero]; rfl) (by kernel_rfl) (by kernel_rfl) (by kernel_rfl) (by intro _ _ _ h; exact h) (Or.inl ⟨by rfl, ?_⟩) (by assumption) ?_
        rotate_left
        · intro w hSw
          (try dsimp only at hSw)
          first | (go_simp; done) | (go_simp; with_reducible rfl) | with_reducible rfl
        simp only [Act.put, List.setIfInBounds_toArray, List.set_cons_zero, List.set_cons_succ]
        refine wpAnyH_ready (rs := [10]) (by kernel_rfl) (by simp) ?_
        refine AllReadyH.cons (by simp only [List.getElem?_toArray, List.getElem?_cons_succ, List.getElem?_cons_zero]; rfl) (fun K hK => ?_) AllReadyH.nil
        go_simp
        refine hK.out _ _ ⟨d0, dx0, dx1⟩ (fun hHeld10 => ?_)
        clear hK K
        try simp only [Act.put, List.setIfInBounds_toArray, List.set_cons_zero, List.set_cons_succ]
        refine wpAnyH_take (i := 11) (v := ?_) (by simp only [List.getElem?_toArray, List.getElem?_cons_succ, List.getElem?_cons_zero]; rfl) (by kernel_rfl) (by kernel_rfl) (by kernel_rfl) (by intro _ _ _ h; exact h) (Or.inl ⟨by rfl, ?_⟩) (by assumption) ?_
        rotate_left
        · intro w hSw
          (try dsimp only at hSw)
          first | (go_simp; done) | (go_simp; with_reducible rfl) | with_reducible rfl
        simp only [Act.put, List.setIfInBounds_toArray, List.set_cons_zero, List.set_cons_succ]
        refine wpAnyH_take (i := 12) (v := ?_) (by simp only [List.getElem?_toArray, List.getElem?_cons_succ, List.getElem?_cons_zero]; rfl) (by kernel_rfl) (by kernel_rfl) (by kernel_rfl) (by intro _ _ _ h; exact h) (Or.inl ⟨by rfl, ?_⟩) (by assumption) ?_
        rotate_left
        · intro w hSw
          (try dsimp only at hSw)
          first | (go_simp; done) | (go_simp; with_reducible rfl) | with_reducible rfl
        simp only [Act.put, List.setIfInBounds_toArray, List.set_cons_zero, List.set_cons_succ]
        refine wpAnyH_ready (rs := [13]) (by kernel_rfl) (by simp) ?_
        refine AllReadyH.cons (by simp only [List.getElem?_toArray, List.getElem?_cons_succ, List.getElem?_cons_zero]; rfl) (fun K hK => ?_) AllReadyH.nil
        go_simp
        refine hK.out _ _ ⟨e0, ex0, ex1⟩ (fun hHeld13 => ?_)
        clear hK K
        try simp only [Act.put, List.setIfInBounds_toArray, List.set_cons_zero, List.set_cons_succ]
        refine wpAnyH_done (by kernel_rfl) ?_ _
        refine name_worldZ (p := fun W => Exit.then _ _ _ _ W) (fun W6 hW6 => ?_)
        have T6 : Hid (RefAt W6 R WB wc DB dc GB gc (r.nextC now)) := hid (by rw [hW6, HNC.out]; exact T2.out.new (Mod.refl (fun _ => False) _).drew)
        have M6 : Hid (Mod (RefT R WB DB GB) w W6) := hid (by
          rw [hW6]
          exact (Mod.set (S := RefT R WB DB GB) (Mod.set (S := RefT R WB DB GB) (Mod.set (S := RefT R WB DB GB) (New.mod N5.out) ⟨R, 4, none⟩ _ (.inl (.inl rfl))) ⟨WB, k * 6, none⟩ _ (.inl (.inr (.inl rfl)))) ⟨WB, k * 6 + 1, none⟩ _ (.inl (.inr (.inl rfl)))).drew)
        have M56 : Mod (RefT R WB DB GB) w5 W6 := by
          rw [hW6]
          exact (Mod.set (S := RefT R WB DB GB) (Mod.set (S := RefT R WB DB GB) (Mod.set (S := RefT R WB DB GB) (Mod.refl _ _) ⟨R, 4, none⟩ _ (.inl (.inl rfl))) ⟨WB, k * 6, none⟩ _ (.inl (.inr (.inl rfl)))) ⟨WB, k * 6 + 1, none⟩ _ (.inl (.inr (.inl rfl)))).drew
        have X6 := hid (M56.blk X5.out hXR); have Z6 := hid (M56.blk Z5.out hZR)
        clear hW6 M56 g0 g1 g2 g3 g4 g5 gl x0 x1 xl c0 c4 cl cf d0 dx0 dx1 e0 ex0 ex1 gf0 gf1 hg0 hg1
        have x0 : W6.cell? ⟨X, 0, none⟩ = some (.int .i64 a) := X6.out.cellv 0 rfl
        have x1 : W6.cell? ⟨X, 1, none⟩ = some (.int .i64 b) := X6.out.cellv 1 rfl
        have xl := X6.out.lt
        have z0 : W6.cell? ⟨w.heap.size, 0, none⟩ = some (.int .i64 0) := Z6.out.cellv 0 rfl
        have z1 : W6.cell? ⟨w.heap.size, 1, none⟩ = some (.int .i64 0) := Z6.out.cellv 1 rfl
        have zl := Z6.out.lt; have zf0 := Z6.out.frz 0; have zf1 := Z6.out.frz 1
        have ex0 := blk_cell (p := ⟨w.heap.size, 1, none⟩) (u := .int .i64 b) (fun e => hXZ e.symm) (blk_cell (p := ⟨w.heap.size, 0, none⟩) (u := .int .i64 a) (fun e => hXZ e.symm) x0)
        have ex1 := blk_cell (p := ⟨w.heap.size, 1, none⟩) (u := .int .i64 b) (fun e => hXZ e.symm) (blk_cell (p := ⟨w.heap.size, 0, none⟩) (u := .int .i64 a) (fun e => hXZ e.symm) x1)
        go_wp2_with fail
        refine wp_region_held_drew (S := (fun w' => w'.cell? ⟨X, 0, none⟩ = some (.int .i64 a) ∧ w'.cell? ⟨X, 1, none⟩ = some (.int .i64 b))) (by kernel_rfl) ⟨x0, x1⟩ (fun hHeld => ?_)
        refine wpAnyH_take (i := 0) (v := ?_) (by simp only [List.getElem?_toArray, List.getElem?_cons_succ, List.getElem?_cons_zero]; rfl) (by kernel_rfl) (by kernel_rfl) (by kernel_rfl) (by intro _ _ _ h; exact h) (Or.inl ⟨by rfl, ?_⟩) (by assumption) ?_
        rotate_left
        · intro w hSw
          (try dsimp only at hSw)
          first | (go_simp; done) | (go_simp; with_reducible rfl) | with_reducible rfl
        simp only [Act.put, List.setIfInBounds_toArray, List.set_cons_zero, List.set_cons_succ]
        refine wpAnyH_take (i := 1) (v := ?_) (by simp only [List.getElem?_toArray, List.getElem?_cons_succ, List.getElem?_cons_zero]; rfl) (by kernel_rfl) (by kernel_rfl) (by kernel_rfl) (by intro _ _ _ h; exact h) (Or.inl ⟨by rfl, ?_⟩) (by assumption) ?_
        rotate_left
        · intro w hSw
          (try dsimp only at hSw)
          first | (go_simp; done) | (go_simp; with_reducible rfl) | with_reducible rfl
        simp only [Act.put, List.setIfInBounds_toArray, List.set_cons_zero, List.set_cons_succ]
        refine wpAnyH_take (i := 2) (v := ?_) (by simp only [List.getElem?_toArray, List.getElem?_cons_succ, List.getElem?_cons_zero]; rfl) (by kernel_rfl) (by kernel_rfl) (by kernel_rfl) (by intro _ _ _ h; exact h) (Or.inl ⟨by rfl, ?_⟩) (by assumption) ?_
        rotate_left
        · intro w hSw
          (try dsimp only at hSw)
          first | (go_simp; done) | (go_simp; with_reducible rfl) | with_reducible rfl
        simp only [Act.put, List.setIfInBounds_toArray, List.set_cons_zero, List.set_cons_succ]
        refine wpAnyH_ready (rs := [3]) (by kernel_rfl) (by simp) ?_
        refine AllReadyH.cons (by simp only [List.getElem?_toArray, List.getElem?_cons_succ, List.getElem?_cons_zero]; rfl) (fun K hK => ?_) AllReadyH.nil
        go_simp
        refine hK.out _ _ ⟨ex0, ex1⟩ (fun hHeld3 => ?_)
        clear hK K
        try simp only [Act.put, List.setIfInBounds_toArray, List.set_cons_zero, List.set_cons_succ]
        refine wpAnyH_take (i := 4) (v := ?_) (by simp only [List.getElem?_toArray, List.getElem?_cons_succ, List.getElem?_cons_zero]; rfl) (by kernel_rfl) (by kernel_rfl) (by kernel_rfl) (by intro _ _ _ h; exact h) (Or.inl ⟨by rfl, ?_⟩) (by assumption) ?_
        rotate_left
        · intro w hSw
          (try dsimp only at hSw)
          first | (go_simp; done) | (go_simp; with_reducible rfl) | with_reducible rfl
        simp only [Act.put, List.setIfInBounds_toArray, List.set_cons_zero, List.set_cons_succ]
        refine wpAnyH_done (by kernel_rfl) ?_ _
        refine name_worldZ (p := fun W => Exit.then _ _ _ _ W) (fun W7 hW7 => ?_)
        have Z7 : Blk W7 w.heap.size #[.int .i64 a, .int .i64 b] 34 := by rw [hW7]; exact ((Z6.out.set 0 _).set 1 _).row (by simp)
        have M7 : Mod (fun q => q = w.heap.size) W6 W7 := by rw [hW7]; exact (Mod.set (S := fun q => q = w.heap.size) (Mod.set (S := fun q => q = w.heap.size) (Mod.refl _ _) ⟨w.heap.size, 0, none⟩ _ (.inl rfl)) ⟨w.heap.size, 1, none⟩ _ (.inl rfl)).drew
        have T7 := hid (T6.out.mod M7 (fun q e e2 => hZR (by have e3 : q = w.heap.size := e2; rw [← e3]; exact e)))
        have M8 := hid (M6.out.trans' M7 (fun q hq e => by have e2 : q = w.heap.size := e; omega))
        have q0 := Z7.cellv 0 rfl; have q1 := Z7.cellv 1 rfl
        clear hW7 Z7 M7 x0 x1 xl z0 z1 zl zf0 zf1 ex0 ex1
        go_wp2
        have HE0 : E = 0 := by rw [HE2.out, HID.out, decide_eq_true hb0]; rfl
        exact bodyPost_ret (v := .tuple #[.int .i64 k, .agg #[.int .i64 a, .int .i64 b], .int .i64 0]) (by simp [results, Tryz.results21, go_sem, q0, q1]) rfl (.inr ⟨HE0, k, HID.out, rfl, T7.out, M8.out⟩)
      · by_cases hb0 : 0 < b
        · have hff : freeW now v = false := by
            cases q : freeW now v with
            | false => rfl
            | true => exact absurd ⟨hb0, q⟩ hf
          have HFF := hid hff
          clear hf
          cases ho : v.out with
          | true =>
            rw [ho] at g5
            clear hff ho
            go_wp2
            refine ⟨⟨k + 1, by simp, by omega, fun hb9 j u hj hu => ?_, HN.out.alloc _⟩, by simp [intOf]; omega⟩
            rcases Nat.lt_succ_iff_lt_or_eq.1 hj with q | q
            · exact HFR.out hb9 j u q hu
            · subst q
              have := HV.out
              rw [hu] at this
              cases this
              exact HFF.out
          | false =>
            rw [ho] at g5
            by_cases hc : v.cnt = 0
            · have htl : ¬ v.til ≤ now := fun q => by
                unfold freeW at hff
                rw [ho, hc, decide_eq_true q] at hff
                simp at hff
              rw [hc] at g1
              clear hff ho hc
              go_wp2
              refine ⟨⟨k + 1, by simp, by omega, fun hb9 j u hj hu => ?_, HN.out.alloc _⟩, by simp [intOf]; omega⟩
              rcases Nat.lt_succ_iff_lt_or_eq.1 hj with q | q
              · exact HFR.out hb9 j u q hu
              · subst q
                have := HV.out
                rw [hu] at this
                cases this
                exact HFF.out
            · have hcb : (v.cnt == 0) = false := by rw [beq_eq_false_iff_ne]; exact hc
              clear hff ho hc
              go_wp2
              refine ⟨⟨k + 1, by simp, by omega, fun hb9 j u hj hu => ?_, HN.out.alloc _⟩, by simp [intOf]; omega⟩
              rcases Nat.lt_succ_iff_lt_or_eq.1 hj with q | q
              · exact HFR.out hb9 j u q hu
              · subst q
                have := HV.out
                rw [hu] at this
                cases this
                exact HFF.out
        · clear hf
          go_wp2
          refine ⟨⟨k + 1, by simp, by omega, fun hb9 j u hj hu => ?_, HN.out.alloc _⟩, by simp [intOf]; omega⟩
          rcases Nat.lt_succ_iff_lt_or_eq.1 hj with q | q
          · exact HFR.out hb9 j u q hu
          · subst q
            have := HV.out
            rw [hu] at this
            cases this
            exact (absurd hb9 hb0)
    · have HE8 : Hid (E = 8) := hid (by
        rw [HE2.out]
        by_cases hb0 : 0 < b
        · rw [idx_noneW hlt (HFR.out hb0)]
          simp
        · rw [decide_eq_false hb0]
          simp)
      have z0 := Z4.out.cellv 0 rfl; have z1 := Z4.out.cellv 1 rfl; have zl := Z4.out.lt; have zf0 := Z4.out.frz 0; have zf1 := Z4.out.frz 1
      clear HFR
      go_wp2
      refine name_worldZ (p := fun W => bodyPost _ _ _ _ _ W) (fun W6 hW6 => ?_)
      have K6 : Blk W6 w.heap.size #[.int .i64 0, .int .i64 0] 34 := by
        rw [hW6]
        exact ((Z4.out.set 0 _).set 1 _).row (by simp)
      have N6 : New w W6 := by
        rw [hW6]
        exact Mod.set (Mod.set (N2.out.trans HN.out) _ _ (.inr (Nat.le_refl _))) _ _ (.inr (Nat.le_refl _))
      have q0 := K6.cellv 0 rfl; have q1 := K6.cellv 1 rfl
      clear hW6
      exact bodyPost_ret (v := .tuple #[.int .i64 0, .agg #[.int .i64 0, .int .i64 0], .int .i64 8]) (by simp [results, Tryz.results21, go_sem, q0, q1]) rfl (.inl ⟨by rw [HE8.out]; decide, by rw [HE8.out], N6⟩)
end Go.Proofs.YtnhgichiedninaaGreatDoor
