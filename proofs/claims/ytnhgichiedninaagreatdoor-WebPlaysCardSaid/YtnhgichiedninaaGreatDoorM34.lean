/-
  Several texts in one, in their build order. The walks of Bad, Want, Out and Wait (the reference's client of web seeds). Conditions: the client lies as told. A generic function of the library laid at this program, in plain words, written by the kit's tool. No condition.
-/
import Derived.Test.YtnhgichiedninaaGreatDoorM33
import Derived.Shelf.SlGeneric
import Derived.Ground.SlsfProg
import Derived.Shelf.SlSortCmp.WholeK
import Derived.Test.YtnhgichiedninaaGreatDoorProg
namespace Go.Proofs.YtnhgichiedninaaGreatDoor
set_option linter.unusedSimpArgs false
set_option linter.unusedVariables false
open Go.RowKit Go.Shelf

def WebV.badS (v : WebV) : WebV := ⟨v.frm, v.cnt, v.failed, v.til, v.bad + 1, v.out || decide (3 ≤ v.bad + 1)⟩
def RefV.badE (r : RefV) (now web piece : Int) : Int :=
  if piece < 0 ∨ (r.wanted.length : Int) ≤ piece then 7 else if r.atE now web ≠ 0 then r.atE now web else if r.gave[piece.toNat]? = some web then 0 else 9
def RefV.badC (r : RefV) (now : Int) (k i : Nat) (v : WebV) : RefV := ⟨r.webs.set k v.badS, r.wanted.set i true, r.gave.set i (-1), r.run, now⟩
set_option maxRecDepth 100000 in
set_option maxHeartbeats 4000000 in
theorem rBad_no (R WB wc DB dc GB gc : Nat) (r : RefV) (now web piece : Int) (w : World) (h : RefAt w R WB wc DB dc GB gc r) (hno : r.badE now web piece ≠ 0) :
    Calls Tryz.prog 18 #[.pointer (some ⟨R, 0, none⟩), .int .i64 now, .int .i64 web, .int .i64 piece] w fun e w' => e = .returned (.int .i64 (r.badE now web piece)) ∧ New w w' := by
  have HAT := hid (rat_any R WB wc DB dc GB gc r now web w h)
  have hfw := h.few.1; have hw60 := h.few.2.1; have hgl := h.few.2.2
  obtain ⟨⟨hcp1, hcp2⟩, ⟨hcp3, hcp4⟩, ⟨hcp5, hcp6⟩⟩ := h.caps
  unfold maxLen at hcp2 hcp4 hcp6
  have c1 := h.row.cellv 1 rfl; have c2 := h.row.cellv 2 rfl; have cl := h.row.lt
  have HR := hid h
  clear h
  unfold RefV.badE at hno ⊢
  by_cases g3 : piece < 0
  · rw [if_pos (.inl g3)]
    clear hno
    go_enter Tryz.func18, Tryz.ntmps18
    go_wp2
    go_ret
    exact ⟨rfl, Mod.refl _ _⟩
  by_cases g4 : (r.wanted.length : Int) ≤ piece
  · rw [if_pos (.inr g4)]
    clear hno
    go_enter Tryz.func18, Tryz.ntmps18
    go_wp2
    go_ret
    exact ⟨rfl, Mod.refl _ _⟩
  rw [if_neg (by omega)] at hno ⊢
  obtain ⟨A, hA⟩ : ∃ A, A = r.atE now web := ⟨_, rfl⟩
  rw [← hA] at HAT hno ⊢
  clear hA
  by_cases g5 : A ≠ 0
  · rw [if_pos g5]
    have hb : (A != 0) = true := by rw [bne_iff_ne]; exact g5
    clear hno g5
    go_enter Tryz.func18, Tryz.ntmps18
    go_wp2_with fail
    refine HAT.out.mono ?_
    rintro e w1 ⟨rfl, rfl⟩
    go_wp2
    go_ret
    exact ⟨rfl, Mod.refl _ _⟩
  obtain rfl : A = 0 := by simpa using g5
  rw [if_neg (by simp)] at hno ⊢
  obtain ⟨i, rfl⟩ := Int.eq_ofNat_of_zero_le (show 0 ≤ piece by omega)
  have hi : i < r.gave.length := by omega
  rw [Int.toNat_natCast, List.getElem?_eq_getElem hi] at hno ⊢
  have gv := HR.out.give_at hi
  have gl := HR.out.gave.lt
  obtain ⟨n, hn⟩ : ∃ n, n = r.gave[i] := ⟨_, rfl⟩
  rw [← hn] at hno gv ⊢
  by_cases g6 : (some n : Option Int) = some web
  · rw [if_pos g6] at hno
    exact absurd rfl hno
  rw [if_neg g6]
  have hb : (n != web) = true := by rw [bne_iff_ne]; exact fun e => g6 (by rw [e])
  have hiI : ¬ (r.wanted.length : Int) ≤ (i : Int) := by omega
  have hiG : (i : Int) < (r.gave.length : Int) := by omega
  have hi0 : ¬ (i : Int) < 0 := by omega
  clear hno g6 hn g3 g4 g5 hi
  go_enter Tryz.func18, Tryz.ntmps18
  go_wp2_with fail
  refine HAT.out.mono ?_
  rintro e w1 ⟨rfl, rfl⟩
  go_wp2
  go_ret
  exact ⟨rfl, Mod.refl _ _⟩
set_option maxRecDepth 100000 in
set_option maxHeartbeats 8000000 in
theorem rBad_yes (R WB wc DB dc GB gc : Nat) (r : RefV) (now : Int) (k i : Nat) (v : WebV) (w : World) (h : RefAt w R WB wc DB dc GB gc r) (hv : r.webs[k]? = some v) (hi : i < r.wanted.length) (hok : r.badE now k i = 0) (hb : 0 ≤ v.bad ∧ v.bad ≤ 1000) :
    Calls Tryz.prog 18 #[.pointer (some ⟨R, 0, none⟩), .int .i64 now, .int .i64 k, .int .i64 i] w fun e w' => e = .returned (.int .i64 0) ∧ RefAt w' R WB wc DB dc GB gc (r.badC now k i v) ∧ Mod (RefT R WB DB GB) w w' := by
  have hk := (List.getElem?_eq_some_iff.1 hv).1
  have hgl := h.few.2.2
  have hig : i < r.gave.length := by omega
  have hA : r.atE now k = 0 ∧ r.gave[i] = (k : Int) := by
    unfold RefV.badE at hok
    rw [if_neg (by omega)] at hok
    by_cases hz : r.atE now k = 0
    · rw [if_neg (by rw [hz]; simp), Int.toNat_natCast, List.getElem?_eq_getElem hig] at hok
      refine ⟨hz, ?_⟩
      by_cases q : (some r.gave[i] : Option Int) = some (k : Int)
      · injection q
      · rw [if_neg q] at hok; cases hok
    · rw [if_pos hz] at hok
      exact absurd hok hz
  obtain ⟨ha0, hgv⟩ := hA
  obtain ⟨t0, t1, -, -⟩ := atE_zero ha0
  have HAT := hid (ha0 ▸ rat_any R WB wc DB dc GB gc r now k w h)
  have HR := hid h; have HV := hid hv
  have hfw := h.few.1; have hw60 := h.few.2.1; have hnn := h.nums
  obtain ⟨⟨hcp1, hcp2⟩, ⟨hcp3, hcp4⟩, ⟨hcp5, hcp6⟩⟩ := h.caps
  unfold maxLen at hcp2 hcp4 hcp6
  have c0 := h.row.cellv 0 rfl; have c1 := h.row.cellv 1 rfl; have c2 := h.row.cellv 2 rfl; have c4 := h.row.cellv 4 rfl; have cl := h.row.lt; have cf := h.row.frz 4
  have gv := h.give_at hig
  rw [hgv] at gv
  have gl := h.gave.lt; have gfz := h.gave.frz i
  have wv := h.wish_at hi
  have wl := h.want.lt; have wfz := h.want.frz i
  obtain ⟨b1, hb1⟩ : ∃ b1, b1 = r.wanted[i] := ⟨_, rfl⟩
  rw [← hb1] at wv
  obtain ⟨p1, p2, p3, p4, p5, p6⟩ := h.apart
  obtain ⟨F3, hF3⟩ := Int.eq_ofNat_of_zero_le (show 0 ≤ v.bad + 1 by omega)
  have hwF : IntKind.i64.wrap (v.bad + 1) = (F3 : Int) := by rw [hF3, IntKind.wrap_i64]; omega
  have HBS := hid (show v.badS = ⟨v.frm, v.cnt, v.failed, v.til, F3, v.out || decide (3 ≤ (F3 : Int))⟩ by unfold WebV.badS; rw [hF3])
  have hiI : ¬ (r.wanted.length : Int) ≤ (i : Int) := by omega
  have hiG : (i : Int) < (r.gave.length : Int) := by omega
  have hi0 : ¬ (i : Int) < 0 := by omega
  have T1 := h.time (t := now) ⟨by omega, t1⟩
  have T2 := T1.give (i := i) (by simp only; exact hi) (-1)
  have T3 := T2.wish (i := i) (by simp only; exact hi) true
  have HT3 := hid T3
  have d1 : (w.setCell ⟨R, 4, none⟩ (.int .i64 now)).cell? ⟨R, 1, none⟩ = some (.slice (some ⟨DB, 0, none⟩) r.wanted.length dc) := T1.row.cellv 1 rfl
  have d2 : (w.setCell ⟨R, 4, none⟩ (.int .i64 now)).cell? ⟨R, 2, none⟩ = some (.slice (some ⟨GB, 0, none⟩) r.gave.length gc) := T1.row.cellv 2 rfl
  have dg := blk_cell (p := ⟨R, 4, none⟩) (u := .int .i64 now) (fun e => p3 e.symm) gv
  have dw := blk_cell (p := ⟨R, 4, none⟩) (u := .int .i64 now) (fun e => p2 e.symm) wv
  have e1 := blk_cell (p := ⟨GB, i, none⟩) (u := .int .i64 (-1)) p3 d1; have e2 := blk_cell (p := ⟨GB, i, none⟩) (u := .int .i64 (-1)) p3 d2
  have ew := blk_cell (p := ⟨GB, i, none⟩) (u := .int .i64 (-1)) (fun e => p6 e.symm) dw
  have f1 := blk_cell (p := ⟨DB, i, none⟩) (u := .bool true) p2 e1; have f2 := blk_cell (p := ⟨DB, i, none⟩) (u := .bool true) p2 e2
  clear h hv hok ha0 hgv hF3 hb1 T1 T2 T3 hig
  go_enter Tryz.func18, Tryz.ntmps18
  go_wp2_with fail
  refine HAT.out.mono ?_
  rintro e w1 ⟨rfl, rfl⟩
  go_wp2_with fail
  refine wp_region_held_drew (S := (fun w' => w'.cell? ⟨R, 1, none⟩ = some (.slice (some ⟨DB, 0, none⟩) r.wanted.length dc) ∧ w'.cell? ⟨R, 2, none⟩ = some (.slice (some ⟨GB, 0, none⟩) r.gave.length gc))) (by kernel_rfl) ⟨d1, d2⟩ (fun hHeld => ?_)
  refine wpAnyH_take (i := 0) (v := ?_) (by simp only [List.getElem?_toArray, List.getElem?_cons_succ, List.getElem?_cons_zero]; rfl) (by kernel_rfl) (by kernel_rfl) (by kernel_rfl) (by intro _ _ _ h; exact h) (Or.inl ⟨by rfl, ?_⟩) (by assumption) ?_
  rotate_left
  · intro w hSw
    (try dsimp only at hSw)
    first | (go_simp; done) | (go_simp; with_reducible rfl) | with_reducible rfl
  simp only [Act.put, List.setIfInBounds_toArray, List.set_cons_zero, List.set_cons_succ]
  refine wpAnyH_take (i := 1) (v := ?_) (by simp only [List.getElem?_toArray, List.getElem?_cons_succ, List.getElem?_cons_zero]; rfl) (by kernel_rfl) (by kernel_rfl) (by kernel_rfl) (by intro _ _ _ h; exact h) (Or.inl ⟨by rfl, ?_⟩) (by assumption) ?_
  rotate_left
  · intro w hSw
    (try dsimp only at hSw)
    first | (go_simp; done) | (go_simp; with_reducible rfl) | with_reducible rfl
  simp only [Act.put, List.setIfInBounds_toArray, List.set_cons_zero, List.set_cons_succ]
  refine wpAnyH_take (i := 2) (v := ?_) (by simp only [List.getElem?_toArray, List.getElem?_cons_succ, List.getElem?_cons_zero]; rfl) (by kernel_rfl) (by kernel_rfl) (by kernel_rfl) (by intro _ _ _ h; exact h) (Or.inl ⟨by rfl, ?_⟩) (by assumption) ?_
  rotate_left
  · intro w hSw
    (try dsimp only at hSw)
    first | (go_simp; done) | (go_simp; with_reducible rfl) | with_reducible rfl
  simp only [Act.put, List.setIfInBounds_toArray, List.set_cons_zero, List.set_cons_succ]
  refine wpAnyH_take (i := 3) (v := ?_) (by simp only [List.getElem?_toArray, List.getElem?_cons_succ, List.getElem?_cons_zero]; rfl) (by kernel_rfl) (by kernel_rfl) (by kernel_rfl) (by intro _ _ _ h; exact h) (Or.inl ⟨by rfl, ?_⟩) (by assumption) ?_
  rotate_left
  · intro w hSw
    (try dsimp only at hSw)
    first | (go_simp; done) | (go_simp; with_reducible rfl) | with_reducible rfl
  simp only [Act.put, List.setIfInBounds_toArray, List.set_cons_zero, List.set_cons_succ]
  refine wpAnyH_take (i := 4) (v := ?_) (by simp only [List.getElem?_toArray, List.getElem?_cons_succ, List.getElem?_cons_zero]; rfl) (by kernel_rfl) (by kernel_rfl) (by kernel_rfl) (by intro _ _ _ h; exact h) (Or.inl ⟨by rfl, ?_⟩) (by assumption) ?_
  rotate_left
  · intro w hSw
    (try dsimp only at hSw)
    first | (go_simp; done) | (go_simp; with_reducible rfl) | with_reducible rfl
  simp only [Act.put, List.setIfInBounds_toArray, List.set_cons_zero, List.set_cons_succ]
  refine wpAnyH_take (i := 5) (v := ?_) (by simp only [List.getElem?_toArray, List.getElem?_cons_succ, List.getElem?_cons_zero]; rfl) (by kernel_rfl) (by kernel_rfl) (by kernel_rfl) (by intro _ _ _ h; exact h) (Or.inl ⟨by rfl, ?_⟩) (by assumption) ?_
  rotate_left
  · intro w hSw
    (try dsimp only at hSw)
    first | (go_simp; done) | (go_simp; with_reducible rfl) | with_reducible rfl
  simp only [Act.put, List.setIfInBounds_toArray, List.set_cons_zero, List.set_cons_succ]
  refine wpAnyH_take (i := 6) (v := ?_) (by simp only [List.getElem?_toArray, List.getElem?_cons_succ, List.getElem?_cons_zero]; rfl) (by kernel_rfl) (by kernel_rfl) (by kernel_rfl) (by intro _ _ _ h; exact h) (Or.inl ⟨by rfl, ?_⟩) (by assumption) ?_
  rotate_left
  · intro w hSw
    (try dsimp only at hSw)
    first | (go_simp; done) | (go_simp; with_reducible rfl) | with_reducible rfl
  simp only [Act.put, List.setIfInBounds_toArray, List.set_cons_zero, List.set_cons_succ]
  refine wpAnyH_take (i := 7) (v := ?_) (by simp only [List.getElem?_toArray, List.getElem?_cons_succ, List.getElem?_cons_zero]; rfl) (by kernel_rfl) (by kernel_rfl) (by kernel_rfl) (by intro _ _ _ h; exact h) (Or.inl ⟨by rfl, ?_⟩) (by assumption) ?_
  rotate_left
  · intro w hSw
    (try dsimp only at hSw)
    first | (go_simp; done) | (go_simp; with_reducible rfl) | with_reducible rfl
  simp only [Act.put, List.setIfInBounds_toArray, List.set_cons_zero, List.set_cons_succ]
  refine wpAnyH_take (i := 8) (v := ?_) (by simp only [List.getElem?_toArray, List.getElem?_cons_succ, List.getElem?_cons_zero]; rfl) (by kernel_rfl) (by kernel_rfl) (by kernel_rfl) (by intro _ _ _ h; exact h) (Or.inl ⟨by rfl, ?_⟩) (by assumption) ?_
  rotate_left
  · intro w hSw
    (try dsimp only at hSw)
    first | (go_simp; done) | (go_simp; with_reducible rfl) | with_reducible rfl
  simp only [Act.put, List.setIfInBounds_toArray, List.set_cons_zero, List.set_cons_succ]
  refine wpAnyH_take (i := 9) (v := ?_) (by simp only [List.getElem?_toArray, List.getElem?_cons_succ, List.getElem?_cons_zero]; rfl) (by kernel_rfl) (by kernel_rfl) (by kernel_rfl) (by intro _ _ _ h; exact h) (Or.inl ⟨by rfl, ?_⟩) (by assumption) ?_
  rotate_left
  · intro w hSw
    (try dsimp only at hSw)
    first | (go_simp; done) | (go_simp; with_reducible rfl) | with_reducible rfl
  simp only [Act.put, List.setIfInBounds_toArray, List.set_cons_zero, List.set_cons_succ]
  refine wpAnyH_take (i := 10) (v := ?_) (by simp only [List.getElem?_toArray, List.getElem?_cons_succ, List.getElem?_cons_zero]; rfl) (by kernel_rfl) (by kernel_rfl) (by kernel_rfl) (by intro _ _ _ h; exact h) (Or.inl ⟨by rfl, ?_⟩) (by assumption) ?_
  rotate_left
  · intro w hSw
    (try dsimp only at hSw)
    first | (go_simp; done) | (go_simp; with_reducible rfl) | with_reducible rfl
  simp only [Act.put, List.setIfInBounds_toArray, List.set_cons_zero, List.set_cons_succ]
  refine wpAnyH_ready (rs := [11]) (by kernel_rfl) (by simp) ?_
  refine AllReadyH.cons (by simp only [List.getElem?_toArray, List.getElem?_cons_succ, List.getElem?_cons_zero]; rfl) (fun K hK => ?_) AllReadyH.nil
  go_simp
  refine hK.out _ _ ⟨e1, e2⟩ (fun hHeld11 => ?_)
  clear hK K
  try simp only [Act.put, List.setIfInBounds_toArray, List.set_cons_zero, List.set_cons_succ]
  refine wpAnyH_take (i := 12) (v := ?_) (by simp only [List.getElem?_toArray, List.getElem?_cons_succ, List.getElem?_cons_zero]; rfl) (by kernel_rfl) (by kernel_rfl) (by kernel_rfl) (by intro _ _ _ h; exact h) (Or.inl ⟨by rfl, ?_⟩) (by assumption) ?_
  rotate_left
  · intro w hSw
    (try dsimp only at hSw)
    first | (go_simp; done) | (go_simp; with_reducible rfl) | with_reducible rfl
  simp only [Act.put, List.setIfInBounds_toArray, List.set_cons_zero, List.set_cons_succ]
  refine wpAnyH_ready (rs := [13]) (by kernel_rfl) (by simp) ?_
  refine AllReadyH.cons (by simp only [List.getElem?_toArray, List.getElem?_cons_succ, List.getElem?_cons_zero]; rfl) (fun K hK => ?_) AllReadyH.nil
  go_simp
  refine hK.out _ _ ⟨f1, f2⟩ (fun hHeld13 => ?_)
  clear hK K
  try simp only [Act.put, List.setIfInBounds_toArray, List.set_cons_zero, List.set_cons_succ]
  refine wpAnyH_done (by kernel_rfl) ?_ _
  refine name_worldZ (p := fun W => Exit.then _ _ _ _ W) (fun W6 hW6 => ?_)
  have T6 : Hid (RefAt W6 R WB wc DB dc GB gc ⟨r.webs, r.wanted.set i true, r.gave.set i (-1), r.run, now⟩) := hid (by rw [hW6]; exact HT3.out.new (Mod.refl (fun _ => False) _).drew)
  have M6 : Hid (Mod (RefT R WB DB GB) w W6) := hid (by
    rw [hW6]
    exact (Mod.set (S := RefT R WB DB GB) (Mod.set (S := RefT R WB DB GB) (Mod.set (S := RefT R WB DB GB) (Mod.refl _ _) ⟨R, 4, none⟩ _ (.inl (.inl rfl))) ⟨GB, i, none⟩ _ (.inl (.inr (.inr (.inr rfl))))) ⟨DB, i, none⟩ _ (.inl (.inr (.inr (.inl rfl))))).drew)
  clear hW6 c0 c1 c2 c4 cl cf gv gl gfz wv wl wfz d1 d2 dg dw e1 e2 ew f1 f2
  obtain ⟨g0, g1, g2, g3, g4, g5⟩ := T6.out.seed HV.out
  have gl := T6.out.webs.lt
  have gf4 := T6.out.webs.frz (k * 6 + 4); have gf5 := T6.out.webs.frz (k * 6 + 5)
  have c0 : W6.cell? ⟨R, 0, none⟩ = some (.slice (some ⟨WB, 0, none⟩) r.webs.length wc) := T6.out.row.cellv 0 rfl
  have cl := T6.out.row.lt
  cases ho : v.out with
  | true =>
    rw [ho] at g5
    go_wp2
    refine name_worldZ (p := fun W => bodyPost _ _ _ _ _ W) (fun W7 hW7 => ?_)
    have V1 := web_put (j := 4) (x := .int .i64 F3) (v' := ⟨v.frm, v.cnt, v.failed, v.til, F3, v.out⟩) T6.out.webs HV.out (by omega) (by simp [webCells])
    have V2 := web_put (k := k) (v := ⟨v.frm, v.cnt, v.failed, v.til, F3, v.out⟩) (j := 5) (x := .bool true) (v' := v.badS) V1 (List.getElem?_set_self hk) (by omega) (by rw [HBS.out]; simp [webCells, ho])
    rw [List.set_set] at V2
    have MW : Mod (fun q => q = WB) W6 W7 := by
      rw [hW7]
      exact Mod.set (S := fun q => q = WB) (Mod.set (S := fun q => q = WB) (Mod.refl _ _) ⟨WB, k * 6 + 4, none⟩ _ (.inl rfl)) ⟨WB, k * 6 + 5, none⟩ _ (.inl rfl)
    have T2 := T6.out.web (w' := W7) (k := k) (v := v.badS) (by rw [hW7]; exact V2) MW (by have := HR.out.rng v (List.mem_of_getElem? HV.out); rw [HBS.out]; simp only [List.length_set]; exact this)
    have M7 := M6.out.trans (MW.mono (fun q _ e => .inr (.inl e)))
    clear hW7 V1 V2 MW
    exact bodyPost_ret (v := .int .i64 0) (by simp [results, Tryz.results18, go_sem]) rfl ⟨rfl, T2, M7⟩
  | false =>
    rw [ho] at g5
    go_wp2
    refine name_worldZ (p := fun W => bodyPost _ _ _ _ _ W) (fun W7 hW7 => ?_)
    have V1 := web_put (j := 4) (x := .int .i64 F3) (v' := ⟨v.frm, v.cnt, v.failed, v.til, F3, v.out⟩) T6.out.webs HV.out (by omega) (by simp [webCells])
    have V2 := web_put (k := k) (v := ⟨v.frm, v.cnt, v.failed, v.til, F3, v.out⟩) (j := 5) (x := .bool (decide (3 ≤ (F3 : Int)))) (v' := v.badS) V1 (List.getElem?_set_self hk) (by omega) (by rw [HBS.out]; simp [webCells, ho])
    rw [List.set_set] at V2
    have MW : Mod (fun q => q = WB) W6 W7 := by
      rw [hW7]
      exact Mod.set (S := fun q => q = WB) (Mod.set (S := fun q => q = WB) (Mod.refl _ _) ⟨WB, k * 6 + 4, none⟩ _ (.inl rfl)) ⟨WB, k * 6 + 5, none⟩ _ (.inl rfl)
    have T2 := T6.out.web (w' := W7) (k := k) (v := v.badS) (by rw [hW7]; exact V2) MW (by have := HR.out.rng v (List.mem_of_getElem? HV.out); rw [HBS.out]; simp only [List.length_set]; exact this)
    have M7 := M6.out.trans (MW.mono (fun q _ e => .inr (.inl e)))
    clear hW7 V1 V2 MW
    exact bodyPost_ret (v := .int .i64 0) (by simp [results, Tryz.results18, go_sem]) rfl ⟨rfl, T2, M7⟩
/-! ### Want, Out, Wait -/
def RefV.wantE (r : RefV) (piece : Int) : Int := if piece < 0 ∨ (r.wanted.length : Int) ≤ piece then 7 else 0
set_option maxRecDepth 100000 in
set_option maxHeartbeats 4000000 in
theorem rWant_no (R WB wc DB dc GB gc : Nat) (r : RefV) (piece : Int) (tb : Bool) (w : World) (h : RefAt w R WB wc DB dc GB gc r) (hno : r.wantE piece ≠ 0) :
    Calls Tryz.prog 20 #[.pointer (some ⟨R, 0, none⟩), .int .i64 piece, .bool tb] w fun e w' => e = .returned (.int .i64 (r.wantE piece)) ∧ New w w' := by
  have c1 := h.row.cellv 1 rfl; have cl := h.row.lt
  have hw60 := h.few.2.1
  have hcp := h.caps.2.1
  unfold maxLen at hcp
  unfold RefV.wantE at hno ⊢
  by_cases g : piece < 0 ∨ (r.wanted.length : Int) ≤ piece
  · rw [if_pos g]
    clear h hno
    rcases g with g | g
    all_goals
      go_enter Tryz.func20, Tryz.ntmps20
      go_wp2
      go_ret
      exact ⟨rfl, Mod.refl _ _⟩
  · rw [if_neg g] at hno
    exact absurd rfl hno
set_option maxRecDepth 100000 in
set_option maxHeartbeats 4000000 in
theorem rWant_yes (R WB wc DB dc GB gc : Nat) (r : RefV) (i : Nat) (tb : Bool) (w : World) (h : RefAt w R WB wc DB dc GB gc r) (hi : i < r.wanted.length) :
    Calls Tryz.prog 20 #[.pointer (some ⟨R, 0, none⟩), .int .i64 i, .bool tb] w fun e w' => e = .returned (.int .i64 0) ∧ RefAt w' R WB wc DB dc GB gc { r with wanted := r.wanted.set i tb } ∧ Mod (RefT R WB DB GB) w w' := by
  have c1 := h.row.cellv 1 rfl; have cl := h.row.lt
  have hw60 := h.few.2.1
  have hcp := h.caps.2.1
  unfold maxLen at hcp
  have T1 := hid (h.wish hi tb)
  have wv := h.wish_at hi
  have wl := h.want.lt; have wfz := h.want.frz i
  have hiI : (i : Int) < (r.wanted.length : Int) := by omega
  obtain ⟨b1, hb1⟩ : ∃ b1, b1 = r.wanted[i] := ⟨_, rfl⟩
  rw [← hb1] at wv
  clear h hb1 hi
  go_enter Tryz.func20, Tryz.ntmps20
  go_wp2
  go_ret
  exact ⟨rfl, T1.out, Mod.set (S := RefT R WB DB GB) (Mod.refl _ _) ⟨DB, i, none⟩ _ (.inl (.inr (.inr (.inl rfl))))⟩
def outW (L : List WebV) (web : Int) : Bool × Int := if web < 0 ∨ (L.length : Int) ≤ web then (false, 7) else match L[web.toNat]? with
  | some s => (s.out, 0)
  | none => (false, 7)
def waitW (L : List WebV) (web : Int) : Int × Int := if web < 0 ∨ (L.length : Int) ≤ web then (0, 7) else match L[web.toNat]? with
  | some s => (s.til, 0)
  | none => (0, 7)
set_option maxRecDepth 100000 in
set_option maxHeartbeats 4000000 in
theorem rOut_any (R WB wc DB dc GB gc : Nat) (r : RefV) (web : Int) (w : World) (h : RefAt w R WB wc DB dc GB gc r) :
    Calls Tryz.prog 54 #[.pointer (some ⟨R, 0, none⟩), .int .i64 web] w fun e w' => e = .returned (.tuple #[.bool (outW r.webs web).1, .int .i64 (outW r.webs web).2]) ∧ w = w' := by
  have c0 := h.row.cellv 0 rfl; have cl := h.row.lt
  have hfw := h.few.1; have hcp := h.caps.1
  unfold maxLen at hcp
  by_cases g : web < 0 ∨ (r.webs.length : Int) ≤ web
  · unfold outW
    rw [if_pos g]
    clear h
    rcases g with g | g
    all_goals
      go_enter Tryz.func54, Tryz.ntmps54
      go_wp2
      go_ret2
      exact ⟨rfl, rfl⟩
  · obtain ⟨k, rfl⟩ := Int.eq_ofNat_of_zero_le (show 0 ≤ web by omega)
    have hk : k < r.webs.length := by omega
    have he : outW r.webs k = (r.webs[k].out, 0) := by
      unfold outW
      rw [if_neg g, Int.toNat_natCast, List.getElem?_eq_getElem hk]
    rw [he]
    obtain ⟨-, -, -, -, -, g5⟩ := h.seed (List.getElem?_eq_getElem hk)
    have gl := h.webs.lt
    obtain ⟨o, ho⟩ : ∃ o, o = r.webs[k].out := ⟨_, rfl⟩
    rw [← ho] at g5 ⊢
    clear h he ho g
    go_enter Tryz.func54, Tryz.ntmps54
    go_wp2
    go_ret2
    exact ⟨rfl, rfl⟩
set_option maxRecDepth 100000 in
set_option maxHeartbeats 4000000 in
theorem rWait_any (R WB wc DB dc GB gc : Nat) (r : RefV) (web : Int) (w : World) (h : RefAt w R WB wc DB dc GB gc r) :
    Calls Tryz.prog 56 #[.pointer (some ⟨R, 0, none⟩), .int .i64 web] w fun e w' => e = .returned (.tuple #[.int .i64 (waitW r.webs web).1, .int .i64 (waitW r.webs web).2]) ∧ w = w' := by
  have c0 := h.row.cellv 0 rfl; have cl := h.row.lt
  have hfw := h.few.1; have hcp := h.caps.1
  unfold maxLen at hcp
  by_cases g : web < 0 ∨ (r.webs.length : Int) ≤ web
  · unfold waitW
    rw [if_pos g]
    clear h
    rcases g with g | g
    all_goals
      go_enter Tryz.func56, Tryz.ntmps56
      go_wp2
      go_ret2
      exact ⟨rfl, rfl⟩
  · obtain ⟨k, rfl⟩ := Int.eq_ofNat_of_zero_le (show 0 ≤ web by omega)
    have hk : k < r.webs.length := by omega
    have he : waitW r.webs k = (r.webs[k].til, 0) := by
      unfold waitW
      rw [if_neg g, Int.toNat_natCast, List.getElem?_eq_getElem hk]
    rw [he]
    obtain ⟨-, -, -, g3, -⟩ := h.seed (List.getElem?_eq_getElem hk)
    have gl := h.webs.lt
    obtain ⟨o, ho⟩ : ∃ o, o = r.webs[k].til := ⟨_, rfl⟩
    rw [← ho] at g3 ⊢
    clear h he ho g
    go_enter Tryz.func56, Tryz.ntmps56
    go_wp2
    go_ret2
    exact ⟨rfl, rfl⟩
end Go.Proofs.YtnhgichiedninaaGreatDoor

namespace Go.Proofs
open Go.Shelf
def Tryz.laysSF_ren : Go.Shelf.Ren := ⟨fun | 6 => 40 | 15 => 80 | 14 => 79 | 28 => 116 | 29 => 117 | 20 => 108 | 21 => 109 | 22 => 110 | 23 => 111 | 24 => 112 | 25 => 113 | 26 => 114 | 27 => 115 | 46 => 148 | 47 => 149 | 48 => 150 | 49 => 151 | 50 => 152 | 57 => 171 | n => n, fun | 22 => 38 | 24 => 34 | 25 => 90 | 3 => 3 | 39 => 138 | 0 => 0 | 53 => 173 | 55 => 175 | 4 => 4 | 46 => 167 | 45 => 166 | 50 => 99 | 5 => 5 | 9 => 9 | 66 => 211 | 70 => 215 | 76 => 235 | 77 => 236 | n => n, fun | n => n⟩
theorem Tryz.laysSF : Go.Proofs.SlLaysF0.n6 Tryz.prog Tryz.laysSF_ren := {
  mixed := by kernel_rfl
  f6 := ⟨Tryz.f40.name, by decide, Tryz.func40.trans (congrArg some (by kernel_rfl))⟩
  f14 := ⟨Tryz.f79.name, by decide, Tryz.func79.trans (congrArg some (by kernel_rfl))⟩
  f15 := Tryz.func80.trans (congrArg some (by kernel_rfl))
  f20 := ⟨Tryz.f108.name, by decide, Tryz.func108.trans (congrArg some (by kernel_rfl))⟩
  f21 := ⟨Tryz.f109.name, by decide, Tryz.func109.trans (congrArg some (by kernel_rfl))⟩
  f22 := ⟨Tryz.f110.name, by decide, Tryz.func110.trans (congrArg some (by kernel_rfl))⟩
  f23 := ⟨Tryz.f111.name, by decide, Tryz.func111.trans (congrArg some (by kernel_rfl))⟩
  f24 := ⟨Tryz.f112.name, by decide, Tryz.func112.trans (congrArg some (by kernel_rfl))⟩
  f25 := ⟨Tryz.f113.name, by decide, Tryz.func113.trans (congrArg some (by kernel_rfl))⟩
  f26 := ⟨Tryz.f114.name, by decide, Tryz.func114.trans (congrArg some (by kernel_rfl))⟩
  f27 := ⟨Tryz.f115.name, by decide, Tryz.func115.trans (congrArg some (by kernel_rfl))⟩
  f28 := Tryz.func116.trans (congrArg some (by kernel_rfl))
  f29 := Tryz.func117.trans (congrArg some (by kernel_rfl))
  f46 := ⟨Tryz.f148.name, by decide, Tryz.func148.trans (congrArg some (by kernel_rfl))⟩
  f47 := Tryz.func149.trans (congrArg some (by kernel_rfl))
  f48 := Tryz.func150.trans (congrArg some (by kernel_rfl))
  f49 := ⟨Tryz.f151.name, by decide, Tryz.func151.trans (congrArg some (by kernel_rfl))⟩
  f50 := ⟨Tryz.f152.name, by decide, Tryz.func152.trans (congrArg some (by kernel_rfl))⟩
  f57 := ⟨Tryz.f171.name, by decide, Tryz.func171.trans (congrArg some (by kernel_rfl))⟩
  t0 := Tryz.underlying0
  a0 := Tryz.isAgg0
  z0 := Tryz.sizeOf0
  v0 := Tryz.zeroValue0
  t3 := Tryz.underlying3
  a3 := Tryz.isAgg3
  z3 := Tryz.sizeOf3
  v3 := Tryz.zeroValue3
  t4 := Tryz.underlying4
  a4 := Tryz.isAgg4
  z4 := Tryz.sizeOf4
  v4 := Tryz.zeroValue4
  t5 := Tryz.underlying5
  a5 := Tryz.isAgg5
  z5 := Tryz.sizeOf5
  v5 := Tryz.zeroValue5
  t9 := Tryz.underlying9
  a9 := Tryz.isAgg9
  z9 := Tryz.sizeOf9
  v9 := Tryz.zeroValue9
  t22 := Tryz.underlying38
  a22 := Tryz.isAgg38
  z22 := Tryz.sizeOf38
  v22 := Tryz.zeroValue38
  t25 := Tryz.underlying90
  a25 := Tryz.isAgg90
  z25 := Tryz.sizeOf90
  v25 := Tryz.zeroValue90
  t39 := Tryz.underlying138
  a39 := Tryz.isAgg138
  z39 := Tryz.sizeOf138
  v39 := Tryz.zeroValue138
  t45 := Tryz.underlying166
  a45 := Tryz.isAgg166
  z45 := Tryz.sizeOf166
  v45 := Tryz.zeroValue166
  t46 := Tryz.underlying167
  a46 := Tryz.isAgg167
  z46 := Tryz.sizeOf167
  v46 := Tryz.zeroValue167
  t50 := Tryz.underlying99
  a50 := Tryz.isAgg99
  z50 := Tryz.sizeOf99
  v50 := Tryz.zeroValue99
  t53 := Tryz.underlying173
  a53 := Tryz.isAgg173
  z53 := Tryz.sizeOf173
  v53 := Tryz.zeroValue173
  t55 := Tryz.underlying175
  a55 := Tryz.isAgg175
  z55 := Tryz.sizeOf175
  v55 := Tryz.zeroValue175
  t66 := Tryz.underlying211
  a66 := Tryz.isAgg211
  z66 := Tryz.sizeOf211
  v66 := Tryz.zeroValue211
  t70 := Tryz.underlying215
  a70 := Tryz.isAgg215
  z70 := Tryz.sizeOf215
  v70 := Tryz.zeroValue215
  t76 := Tryz.underlying235
  a76 := Tryz.isAgg235
  z76 := Tryz.sizeOf235
  v76 := Tryz.zeroValue235
  t77 := Tryz.underlying236
  a77 := Tryz.isAgg236
  z77 := Tryz.sizeOf236
  v77 := Tryz.zeroValue236 }
end Go.Proofs
