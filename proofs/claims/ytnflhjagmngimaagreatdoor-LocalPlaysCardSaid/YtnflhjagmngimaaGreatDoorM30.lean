/-
  Several texts in one, in their build order. The walk of When (the reference's crier). Conditions: the crier lies as told. The walk of Names (the reference's crier). Conditions: the crier lies as told.
-/
import Derived.Test.YtnflhjagmngimaaGreatDoorM29
import Derived.Laws.AppendOwnNone
namespace Go.Proofs.YtnflhjagmngimaaGreatDoor
set_option linter.unusedSimpArgs false
set_option linter.unusedVariables false
open Go.RowKit Go.Shelf

def dueC (every t : Int) (z : Int) : Int := if 0 ≤ z then max t (z + every) else t
def leastStepC (every t b : Int) (x : ByteArray × Int) : Int := if b < 0 ∨ dueC every t x.2 < b then dueC every t x.2 else b
def leastC (every t : Int) (U : List (ByteArray × Int)) : Int := U.foldl (leastStepC every t) (-1)
theorem leastC_next {every t : Int} {U : List (ByteArray × Int)} {k : Nat} (h : k < U.length) : leastC every t (U.take (k + 1)) = leastStepC every t (leastC every t (U.take k)) U[k] := by
  unfold leastC
  rw [List.take_succ_eq_append_getElem h, List.foldl_append]
  rfl
def RcV.whenT (r : RcV) (t : Int) : Int := if r.ever then max (leastC r.every t r.all) (r.sent + 1000) else leastC r.every t r.all
def RcV.whenE (r : RcV) (t : Int) : Int := if r.atE t ≠ 0 then r.atE t else if r.all = [] then 8 else if 1000000000 < r.whenT t then 8 else 0
def RcV.whenR (r : RcV) (t : Int) : Int := if r.whenE t = 0 then r.whenT t else 0
theorem ratE_zero {r : RcV} {t : Int} (h : r.atE t = 0) : r.now ≤ t ∧ t ≤ 1000000000 := by
  unfold RcV.atE at h
  split at h
  · cases h
  · omega
theorem rat_go (R : Nat) (aa ah : Option Addr) (ca ch : Nat) (r : RcV) (t : Int) (w : World) (h : RcAt w R aa ah ca ch r) (hok : r.atE t = 0) : Calls Tryz.prog 58 #[.pointer (some ⟨R, 0, none⟩), .int .i64 t] w fun e w' => e = .returned (.int .i64 0) ∧ RcAt w' R aa ah ca ch { r with now := t } ∧ Mod (· = R) w w' :=
  (rat_yes R aa ah ca ch r t w h hok).mono fun e w' ⟨h1, h2⟩ => by
    subst h2
    exact ⟨h1, h.time t, Mod.set (Mod.refl _ _) _ _ (.inl rfl)⟩
/-- What is asked behind When. -/
def RcWhen (R : Nat) (aa ah : Option Addr) (ca ch : Nat) (r : RcV) (t : Int) (w : World) (e : Ending) (w' : World) : Prop :=
  e = .returned (.tuple #[.int .i64 (r.whenR t), .int .i64 (r.whenE t)]) ∧ RcAt w' R aa ah ca ch (r.at (r.whenE t) t) ∧ Mod (· = R) w w'
theorem RcWhen.no {R : Nat} {aa ah : Option Addr} {ca ch : Nat} {r : RcV} {t E : Int} {w w' : World} (hE : r.whenE t = E) (hne : E ≠ 0) (h : RcAt w' R aa ah ca ch r) (hm : Mod (· = R) w w') : RcWhen R aa ah ca ch r t w (.returned (.tuple #[.int .i64 0, .int .i64 E])) w' := by
  refine ⟨?_, ?_, hm⟩
  · unfold RcV.whenR; rw [hE, if_neg hne]
  · unfold RcV.at; rw [hE, if_neg hne]; exact h
theorem RcWhen.yes {R : Nat} {aa ah : Option Addr} {ca ch : Nat} {r : RcV} {t V : Int} {w w' : World} (hE : r.whenE t = 0) (hT : r.whenT t = V) (h : RcAt w' R aa ah ca ch { r with now := t }) (hm : Mod (· = R) w w') : RcWhen R aa ah ca ch r t w (.returned (.tuple #[.int .i64 V, .int .i64 0])) w' := by
  refine ⟨?_, ?_, hm⟩
  · unfold RcV.whenR; rw [hE, if_pos rfl, hT]
  · unfold RcV.at; rw [hE, if_pos rfl]; exact h
set_option maxRecDepth 100000 in
set_option maxHeartbeats 8000000 in
theorem rWhen_any (R : Nat) (aa ah : Option Addr) (ca ch : Nat) (r : RcV) (t : Int) (w : World) (h : RcAt w R aa ah ca ch r) (ho : RcOk r) :
    Calls Tryz.prog 26 #[.pointer (some ⟨R, 0, none⟩), .int .i64 t] w (RcWhen R aa ah ca ch r t w) := by
  have HR := hid h
  have c5 : w.cell? ⟨R, 5, none⟩ = some (.int .i64 r.now) := h.row.cellv 5 rfl
  have cl := h.row.lt
  by_cases ga : r.atE t = 0
  · obtain ⟨t0, t1⟩ := ratE_zero ga
    have HQ := hid (rat_go R aa ah ca ch r t w h ga)
    have HO := hid ho
    have hnow := ho.now
    have HWE1 := hid (show r.whenE t = if r.all = [] then 8 else if 1000000000 < r.whenT t then 8 else 0 by unfold RcV.whenE; rw [if_neg (by rw [ga]; decide)])
    clear h ga ho
    go_enter Tryz.func26, Tryz.ntmps26
    go_wp2_with fail
    refine HQ.out.mono ?_
    rintro e w3 ⟨rfl, r3, m3⟩
    have R3 := hid r3; have M3 := hid m3
    have q3 : w3.cell? ⟨R, 3, none⟩ = some (.slice aa r.all.length ca) := r3.row.cellv 3 rfl
    have ql := r3.row.lt; have q5 := r3.row.frz 5
    have q55 : w3.cell? ⟨R, 5, none⟩ = some (.int .i64 t) := r3.row.cellv 5 rfl
    have hc1 := r3.all.le; have hc2 := r3.all.max
    simp only at hc1
    unfold maxLen at hc2
    clear r3 m3 c5 cl
    by_cases g0 : r.all = []
    · have e0 : ((r.all.length : Int) == 0) = true := by rw [g0]; rfl
      rw [if_pos g0] at HWE1
      have HWE := HWE1
      clear g0
      go_wp2_with fail
      go_ret2
      exact RcWhen.no HWE.out (by decide) (R3.out.time r.now) (Mod.set M3.out _ _ (.inl rfl))
    · have e0 : ((r.all.length : Int) == 0) = false := by
        rw [beq_eq_false_iff_ne]
        intro q
        exact g0 (List.eq_nil_of_length_eq_zero (by omega))
      rw [if_neg g0] at HWE1
      have hfew := HO.out.few; have hev := HO.out.every
      clear g0
      go_wp2_with fail
      clear q3 ql q5 q55
      go_loopw [8, 39] (fun x i wr => ∃ (k : Nat) (b : Int), i = .int .i64 k ∧ x = .int .i64 b ∧ k ≤ r.all.length ∧ b = leastC r.every t (r.all.take k) ∧ (-1 ≤ b ∧ b ≤ 1001000000) ∧ New w3 wr) (fun _ i _ => r.all.length - (intOf i).toNat)
      case atStart => exact ⟨0, -1, rfl, rfl, by omega, rfl, by omega, Mod.refl _ _⟩
      case round =>
        obtain ⟨k, b, rfl, rfl, hk, hb, hbb, hn⟩ := hrel
        have HB := hid hb; have HN := hid hn
        by_cases hlt : k < r.all.length
        · obtain ⟨g, rfl, hg, y0, y1, -, -⟩ := (R3.out.new hn).all.get hlt
          have hlast := HO.out.last r.all[k] (List.getElem_mem hlt)
          have hnx := leastC_next (every := r.every) (t := t) hlt
          rw [← hb] at hnx
          simp only at y0 y1
          obtain ⟨s, hs⟩ : ∃ s, s = r.all[k].1 := ⟨_, rfl⟩
          obtain ⟨z, hz⟩ : ∃ z, z = r.all[k].2 := ⟨_, rfl⟩
          unfold leastStepC at hnx
          rw [← hs] at y0
          rw [← hz] at y1 hlast hnx
          have HNX := hid hnx
          have xl : New wr (wr.alloc (.cells #[.string s, .int .i64 z] 92)) := (Mod.refl _ _).alloc _
          have x1 : (wr.alloc (.cells #[.string s, .int .i64 z] 92)).cell? ⟨wr.heap.size, 1, none⟩ = some (.int .i64 z) := (Blk.new wr #[.string s, .int .i64 z] 92).cellv 1 rfl
          have r2 : (wr.alloc (.cells #[.string s, .int .i64 z] 92)).cell? ⟨R, 2, none⟩ = some (.int .i64 r.every) := (R3.out.new (hn.trans xl)).row.cellv 2 rfl
          clear hb hn hs hz hnx xl
          by_cases gz : 0 ≤ z
          · obtain ⟨m, hm⟩ : ∃ m, m = max t (z + r.every) := ⟨_, rfl⟩
            have hmx : max t (z + r.every) = m := hm.symm
            have hm9 : 0 ≤ m ∧ m ≤ 1001000000 := by omega
            have hw : IntKind.i64.wrap (z + r.every) = z + r.every := by rw [IntKind.wrap_i64]; omega
            have hdu : dueC r.every t z = m := by unfold dueC; rw [if_pos gz, hmx]
            rw [hdu] at HNX
            clear hm hdu
            by_cases gb : b < 0
            · rw [if_pos (.inl gb)] at HNX
              go_wp2_with fail
              refine wp_region_held_drew (S := (fun w' => w'.cell? ⟨wr.heap.size, 1, none⟩ = some (.int .i64 z) ∧ w'.cell? ⟨R, 2, none⟩ = some (.int .i64 r.every))) (by kernel_rfl) ⟨x1, r2⟩ (fun hHeld => ?_)
              refine tk (v := ?_) 0 ?_ ?_
              rotate_left
              · intro w hSw
                (try dsimp only at hSw)
                first | (go_simp; done) | (go_simp; with_reducible rfl) | with_reducible rfl
              simp only [Act.put, List.setIfInBounds_toArray, List.set_cons_zero, List.set_cons_succ]
              refine tk (v := ?_) 1 ?_ ?_
              rotate_left
              · intro w hSw
                (try dsimp only at hSw)
                first | (go_simp; done) | (go_simp; with_reducible rfl) | with_reducible rfl
              simp only [Act.put, List.setIfInBounds_toArray, List.set_cons_zero, List.set_cons_succ]
              refine tk (v := ?_) 2 ?_ ?_
              rotate_left
              · intro w hSw
                (try dsimp only at hSw)
                first | (go_simp; done) | (go_simp; with_reducible rfl) | with_reducible rfl
              simp only [Act.put, List.setIfInBounds_toArray, List.set_cons_zero, List.set_cons_succ]
              refine tk (v := ?_) 3 ?_ ?_
              rotate_left
              · intro w hSw
                (try dsimp only at hSw)
                first | (go_simp; done) | (go_simp; with_reducible rfl) | with_reducible rfl
              simp only [Act.put, List.setIfInBounds_toArray, List.set_cons_zero, List.set_cons_succ]
              refine tk (v := ?_) 4 ?_ ?_
              rotate_left
              · intro w hSw
                (try dsimp only at hSw)
                first | (go_simp; done) | (go_simp; with_reducible rfl) | with_reducible rfl
              simp only [Act.put, List.setIfInBounds_toArray, List.set_cons_zero, List.set_cons_succ]
              refine tk (v := ?_) 5 ?_ ?_
              rotate_left
              · intro w hSw
                (try dsimp only at hSw)
                first | (go_simp; done) | (go_simp; with_reducible rfl) | with_reducible rfl
              simp only [Act.put, List.setIfInBounds_toArray, List.set_cons_zero, List.set_cons_succ]
              refine tk (v := ?_) 6 ?_ ?_
              rotate_left
              · intro w hSw
                (try dsimp only at hSw)
                first | (go_simp; done) | (go_simp; with_reducible rfl) | with_reducible rfl
              simp only [Act.put, List.setIfInBounds_toArray, List.set_cons_zero, List.set_cons_succ]
              refine tk (v := ?_) 7 ?_ ?_
              rotate_left
              · intro w hSw
                (try dsimp only at hSw)
                first | (go_simp; done) | (go_simp; with_reducible rfl) | with_reducible rfl
              simp only [Act.put, List.setIfInBounds_toArray, List.set_cons_zero, List.set_cons_succ]
              refine tk (v := ?_) 8 ?_ ?_
              rotate_left
              · intro w hSw
                (try dsimp only at hSw)
                first | (go_simp; done) | (go_simp; with_reducible rfl) | with_reducible rfl
              simp only [Act.put, List.setIfInBounds_toArray, List.set_cons_zero, List.set_cons_succ]
              refine tk (v := ?_) 9 ?_ ?_
              rotate_left
              · intro w hSw
                (try dsimp only at hSw)
                first | (go_simp; done) | (go_simp; with_reducible rfl) | with_reducible rfl
              simp only [Act.put, List.setIfInBounds_toArray, List.set_cons_zero, List.set_cons_succ]
              refine wpAnyH_done (by kernel_rfl) ?_ _
              go_wp2_with fail
              exact ⟨⟨k + 1, m, by simp, rfl, by omega, HNX.out.symm, by omega, (HN.out.alloc _).drew⟩, by simp [intOf]; omega⟩
            · by_cases gb2 : m < b
              · rw [if_pos (.inr gb2)] at HNX
                go_wp2_with fail
                refine wp_region_held_drew (S := (fun w' => w'.cell? ⟨wr.heap.size, 1, none⟩ = some (.int .i64 z) ∧ w'.cell? ⟨R, 2, none⟩ = some (.int .i64 r.every))) (by kernel_rfl) ⟨x1, r2⟩ (fun hHeld => ?_)
                refine tk (v := ?_) 0 ?_ ?_
                rotate_left
                · intro w hSw
                  (try dsimp only at hSw)
                  first | (go_simp; done) | (go_simp; with_reducible rfl) | with_reducible rfl
                simp only [Act.put, List.setIfInBounds_toArray, List.set_cons_zero, List.set_cons_succ]
                refine tk (v := ?_) 1 ?_ ?_
                rotate_left
                · intro w hSw
                  (try dsimp only at hSw)
                  first | (go_simp; done) | (go_simp; with_reducible rfl) | with_reducible rfl
                simp only [Act.put, List.setIfInBounds_toArray, List.set_cons_zero, List.set_cons_succ]
                refine tk (v := ?_) 2 ?_ ?_
                rotate_left
                · intro w hSw
                  (try dsimp only at hSw)
                  first | (go_simp; done) | (go_simp; with_reducible rfl) | with_reducible rfl
                simp only [Act.put, List.setIfInBounds_toArray, List.set_cons_zero, List.set_cons_succ]
                refine tk (v := ?_) 3 ?_ ?_
                rotate_left
                · intro w hSw
                  (try dsimp only at hSw)
                  first | (go_simp; done) | (go_simp; with_reducible rfl) | with_reducible rfl
                simp only [Act.put, List.setIfInBounds_toArray, List.set_cons_zero, List.set_cons_succ]
                refine tk (v := ?_) 4 ?_ ?_
                rotate_left
                · intro w hSw
                  (try dsimp only at hSw)
                  first | (go_simp; done) | (go_simp; with_reducible rfl) | with_reducible rfl
                simp only [Act.put, List.setIfInBounds_toArray, List.set_cons_zero, List.set_cons_succ]
                refine tk (v := ?_) 5 ?_ ?_
                rotate_left
                · intro w hSw
                  (try dsimp only at hSw)
                  first | (go_simp; done) | (go_simp; with_reducible rfl) | with_reducible rfl
                simp only [Act.put, List.setIfInBounds_toArray, List.set_cons_zero, List.set_cons_succ]
                refine tk (v := ?_) 6 ?_ ?_
                rotate_left
                · intro w hSw
                  (try dsimp only at hSw)
                  first | (go_simp; done) | (go_simp; with_reducible rfl) | with_reducible rfl
                simp only [Act.put, List.setIfInBounds_toArray, List.set_cons_zero, List.set_cons_succ]
                refine tk (v := ?_) 7 ?_ ?_
                rotate_left
                · intro w hSw
                  (try dsimp only at hSw)
                  first | (go_simp; done) | (go_simp; with_reducible rfl) | with_reducible rfl
                simp only [Act.put, List.setIfInBounds_toArray, List.set_cons_zero, List.set_cons_succ]
                refine tk (v := ?_) 8 ?_ ?_
                rotate_left
                · intro w hSw
                  (try dsimp only at hSw)
                  first | (go_simp; done) | (go_simp; with_reducible rfl) | with_reducible rfl
                simp only [Act.put, List.setIfInBounds_toArray, List.set_cons_zero, List.set_cons_succ]
                refine tk (v := ?_) 9 ?_ ?_
                rotate_left
                · intro w hSw
                  (try dsimp only at hSw)
                  first | (go_simp; done) | (go_simp; with_reducible rfl) | with_reducible rfl
                simp only [Act.put, List.setIfInBounds_toArray, List.set_cons_zero, List.set_cons_succ]
                refine wpAnyH_done (by kernel_rfl) ?_ _
                go_wp2_with fail
                exact ⟨⟨k + 1, m, by simp, rfl, by omega, HNX.out.symm, by omega, (HN.out.alloc _).drew⟩, by simp [intOf]; omega⟩
              · rw [if_neg (show ¬ (b < 0 ∨ m < b) by omega)] at HNX
                go_wp2_with fail
                refine wp_region_held_drew (S := (fun w' => w'.cell? ⟨wr.heap.size, 1, none⟩ = some (.int .i64 z) ∧ w'.cell? ⟨R, 2, none⟩ = some (.int .i64 r.every))) (by kernel_rfl) ⟨x1, r2⟩ (fun hHeld => ?_)
                refine tk (v := ?_) 0 ?_ ?_
                rotate_left
                · intro w hSw
                  (try dsimp only at hSw)
                  first | (go_simp; done) | (go_simp; with_reducible rfl) | with_reducible rfl
                simp only [Act.put, List.setIfInBounds_toArray, List.set_cons_zero, List.set_cons_succ]
                refine tk (v := ?_) 1 ?_ ?_
                rotate_left
                · intro w hSw
                  (try dsimp only at hSw)
                  first | (go_simp; done) | (go_simp; with_reducible rfl) | with_reducible rfl
                simp only [Act.put, List.setIfInBounds_toArray, List.set_cons_zero, List.set_cons_succ]
                refine tk (v := ?_) 2 ?_ ?_
                rotate_left
                · intro w hSw
                  (try dsimp only at hSw)
                  first | (go_simp; done) | (go_simp; with_reducible rfl) | with_reducible rfl
                simp only [Act.put, List.setIfInBounds_toArray, List.set_cons_zero, List.set_cons_succ]
                refine tk (v := ?_) 3 ?_ ?_
                rotate_left
                · intro w hSw
                  (try dsimp only at hSw)
                  first | (go_simp; done) | (go_simp; with_reducible rfl) | with_reducible rfl
                simp only [Act.put, List.setIfInBounds_toArray, List.set_cons_zero, List.set_cons_succ]
                refine tk (v := ?_) 4 ?_ ?_
                rotate_left
                · intro w hSw
                  (try dsimp only at hSw)
                  first | (go_simp; done) | (go_simp; with_reducible rfl) | with_reducible rfl
                simp only [Act.put, List.setIfInBounds_toArray, List.set_cons_zero, List.set_cons_succ]
                refine tk (v := ?_) 5 ?_ ?_
                rotate_left
                · intro w hSw
                  (try dsimp only at hSw)
                  first | (go_simp; done) | (go_simp; with_reducible rfl) | with_reducible rfl
                simp only [Act.put, List.setIfInBounds_toArray, List.set_cons_zero, List.set_cons_succ]
                refine tk (v := ?_) 6 ?_ ?_
                rotate_left
                · intro w hSw
                  (try dsimp only at hSw)
                  first | (go_simp; done) | (go_simp; with_reducible rfl) | with_reducible rfl
                simp only [Act.put, List.setIfInBounds_toArray, List.set_cons_zero, List.set_cons_succ]
                refine tk (v := ?_) 7 ?_ ?_
                rotate_left
                · intro w hSw
                  (try dsimp only at hSw)
                  first | (go_simp; done) | (go_simp; with_reducible rfl) | with_reducible rfl
                simp only [Act.put, List.setIfInBounds_toArray, List.set_cons_zero, List.set_cons_succ]
                refine tk (v := ?_) 8 ?_ ?_
                rotate_left
                · intro w hSw
                  (try dsimp only at hSw)
                  first | (go_simp; done) | (go_simp; with_reducible rfl) | with_reducible rfl
                simp only [Act.put, List.setIfInBounds_toArray, List.set_cons_zero, List.set_cons_succ]
                refine tk (v := ?_) 9 ?_ ?_
                rotate_left
                · intro w hSw
                  (try dsimp only at hSw)
                  first | (go_simp; done) | (go_simp; with_reducible rfl) | with_reducible rfl
                simp only [Act.put, List.setIfInBounds_toArray, List.set_cons_zero, List.set_cons_succ]
                refine wpAnyH_done (by kernel_rfl) ?_ _
                go_wp2_with fail
                exact ⟨⟨k + 1, b, by simp, rfl, by omega, HNX.out.symm, by omega, (HN.out.alloc _).drew⟩, by simp [intOf]; omega⟩
          · have hdu : dueC r.every t z = t := by unfold dueC; rw [if_neg gz]
            rw [hdu] at HNX
            clear hdu
            by_cases gb : b < 0
            · rw [if_pos (.inl gb)] at HNX
              go_wp2_with fail
              exact ⟨⟨k + 1, t, by simp, rfl, by omega, HNX.out.symm, by omega, HN.out.alloc _⟩, by simp [intOf]; omega⟩
            · by_cases gb2 : t < b
              · rw [if_pos (.inr gb2)] at HNX
                go_wp2_with fail
                exact ⟨⟨k + 1, t, by simp, rfl, by omega, HNX.out.symm, by omega, HN.out.alloc _⟩, by simp [intOf]; omega⟩
              · rw [if_neg (show ¬ (b < 0 ∨ t < b) by omega)] at HNX
                go_wp2_with fail
                exact ⟨⟨k + 1, b, by simp, rfl, by omega, HNX.out.symm, by omega, HN.out.alloc _⟩, by simp [intOf]; omega⟩
        · obtain rfl : k = r.all.length := by omega
          rw [List.take_length] at HB
          have R4 := hid (R3.out.new hn)
          have M4 := hid (M3.out.trans (New.mod hn))
          have y7 : wr.cell? ⟨R, 7, none⟩ = some (.bool r.ever) := R4.out.row.cellv 7 rfl
          have y6 : wr.cell? ⟨R, 6, none⟩ = some (.int .i64 r.sent) := R4.out.row.cellv 6 rfl
          have yl := R4.out.row.lt; have y5 := R4.out.row.frz 5
          have y55 : wr.cell? ⟨R, 5, none⟩ = some (.int .i64 t) := R4.out.row.cellv 5 rfl
          have hsent := HO.out.sent
          clear hb hn
          cases hev9 : r.ever with
          | false =>
            rw [hev9] at y7
            have hT : r.whenT t = b := by unfold RcV.whenT; rw [if_neg (by rw [hev9]; decide), HB.out]
            rw [hT] at HWE1
            have HT := hid hT
            clear hT hev9
            by_cases g9 : 1000000000 < b
            · rw [if_pos g9] at HWE1
              go_wp2_with fail
              go_ret2
              exact RcWhen.no HWE1.out (by decide) (R4.out.time r.now) (Mod.set M4.out _ _ (.inl rfl))
            · rw [if_neg g9] at HWE1
              go_wp2_with fail
              go_ret2
              exact RcWhen.yes HWE1.out HT.out R4.out M4.out
          | true =>
            rw [hev9] at y7
            obtain ⟨m, hm⟩ : ∃ m, m = max b (r.sent + 1000) := ⟨_, rfl⟩
            have hmx : max b (r.sent + 1000) = m := hm.symm
            have hw : IntKind.i64.wrap (r.sent + 1000) = r.sent + 1000 := by rw [IntKind.wrap_i64]; omega
            have hT : r.whenT t = m := by unfold RcV.whenT; rw [if_pos hev9, ← HB.out, hmx]
            rw [hT] at HWE1
            have HT := hid hT
            have hm9 : 0 ≤ m ∧ m ≤ 1002000000 := by omega
            clear hT hev9 hm
            by_cases g9 : 1000000000 < m
            · rw [if_pos g9] at HWE1
              go_wp2_with fail
              go_ret2
              exact RcWhen.no HWE1.out (by decide) (R4.out.time r.now) (Mod.set M4.out _ _ (.inl rfl))
            · rw [if_neg g9] at HWE1
              go_wp2_with fail
              go_ret2
              exact RcWhen.yes HWE1.out HT.out R4.out M4.out
  · have HQ := hid (rat_no R aa ah ca ch r t w h ga)
    have HWE : r.whenE t = r.atE t := by unfold RcV.whenE; rw [if_pos ga]
    have HWE2 := hid HWE
    have HGA := hid ga
    obtain ⟨E, hE⟩ : ∃ E, E = r.atE t := ⟨_, rfl⟩
    rw [← hE] at HQ ga HWE2 HGA
    have e1 : (E == 0) = false := by rw [beq_eq_false_iff_ne]; exact ga
    have e2 : (E != 0) = true := by rw [bne, e1]; rfl
    clear ga hE ho HWE h
    go_enter Tryz.func26, Tryz.ntmps26
    go_wp2_with fail
    refine HQ.out.mono ?_
    rintro e w3 ⟨rfl, rfl⟩
    go_wp2_with fail
    go_ret2
    exact RcWhen.no HWE2.out HGA.out HR.out (Mod.refl _ _)
end Go.Proofs.YtnflhjagmngimaaGreatDoor

namespace Go.Proofs.YtnflhjagmngimaaGreatDoor
set_option linter.unusedSimpArgs false
set_option linter.unusedVariables false
open Go.RowKit Go.Shelf

theorem newGrownP {w w1 w2 : World} {row : Option Nat} (n : New w w1) (g : w1.grownBy w2 row) (h : ∀ k, row = some k → w.heap.size ≤ k) : New w w2 :=
  ⟨g.os.trans n.os, g.tape.trans n.tape, g.output.trans n.output, Nat.le_trans n.size g.size, fun k hk _ => (g.block k (Nat.lt_of_lt_of_le hk n.size) (fun q => by have := h k q.symm; omega)).trans (n.block k hk (fun q => q))⟩
theorem info_con : (Tryz.prog.info? 92).map (fun i => (i.zero, i.size, i.bytes)) = some (some (.agg #[.string ⟨#[]⟩, .int .i64 0]), 2, 24) := by kernel_rfl
theorem info_hrd : (Tryz.prog.info? 95).map (fun i => (i.zero, i.size, i.bytes)) = some (some (.agg #[.string ⟨#[]⟩, .int .i64 0]), 2, 24) := by kernel_rfl
theorem two_newP (w : World) (x y : Value) (t : TypeId) {b : Nat} (hb : b = w.heap.size) : ∀ (j : Nat) (u : Value), [x, y][j]? = some u → (w.alloc (.cells #[x, y] t)).cell? ((⟨b, 0, none⟩ : Addr).add j) = some u := by
  intro j u hj
  rw [addP]
  match j, hj with
  | 0, hj => simp at hj; subst hj; exact (Blk.newAt hb).cellv 0 rfl
  | 1, hj => simp at hj; subst hj; exact (Blk.newAt hb).cellv 1 rfl
set_option maxRecDepth 100000 in
set_option maxHeartbeats 4000000 in
theorem rNames_any (R : Nat) (aa ah : Option Addr) (ca ch : Nat) (r : RcV) (w : World) (h : RcAt w R aa ah ca ch r) (hl : r.all.length ≤ 200) (hz : ∀ x ∈ r.all, x.1.size = 20) :
    Calls Tryz.prog 30 #[.pointer (some ⟨R, 0, none⟩)] w fun e w' => ∃ v, e = .returned v ∧ OwnT w' w.heap.size v (r.all.map (·.1)) ∧ New w w' := by
  have HA := hid h.all
  have c3 : w.cell? ⟨R, 3, none⟩ = some (.slice aa r.all.length ca) := h.row.cellv 3 rfl
  have cl := h.row.lt
  have hc1 := h.all.le; have hc2 := h.all.max
  unfold maxLen at hc2
  obtain ⟨U, hU⟩ : ∃ U, U = r.all := ⟨_, rfl⟩
  rw [← hU] at HA c3 hl hc1 hz ⊢
  have HZ := hid hz
  clear h hU hz
  obtain ⟨i1, hj, hy0, hy1, hy2⟩ := info_parts info_str
  go_enter Tryz.func30, Tryz.ntmps30
  go_wp2
  clear c3 cl
  go_loopw [3, 11] (fun v i wr => ∃ k : Nat, i = .int .i64 k ∧ k ≤ U.length ∧ OwnT wr w.heap.size v ((U.take k).map (·.1)) ∧ New w wr) (fun _ i _ => U.length - (intOf i).toNat)
  case atStart => exact ⟨0, rfl, by omega, OwnT.nil _ _, Mod.refl _ _⟩
  case round =>
    obtain ⟨k, rfl, hk, hb, hn⟩ := hrel
    have HB := hid hb; have HN := hid hn
    by_cases hlt : k < U.length
    · obtain ⟨g, rfl, hg, q0, q1, -, -⟩ := (HA.out.new hn).get hlt
      have HTK := hid (show (U.take (k + 1)).map (·.1) = (U.take k).map (·.1) ++ [U[k].1] by rw [List.take_succ_eq_append_getElem hlt, List.map_append]; rfl)
      have hs20 := HZ.out U[k] (List.getElem_mem hlt)
      obtain ⟨s, hs⟩ : ∃ s, s = U[k].1 := ⟨_, rfl⟩
      obtain ⟨n, hn2⟩ : ∃ n, n = U[k].2 := ⟨_, rfl⟩
      rw [← hs] at q0 HTK hs20
      rw [← hn2] at q1
      obtain ⟨L, hL⟩ : ∃ L, L = (U.take k).map (·.1) := ⟨_, rfl⟩
      rw [← hL] at HB HTK
      have hLl : L.length = k := by rw [hL, List.length_map, List.length_take]; omega
      have HLL : L.length ≤ 200 := by omega
      obtain ⟨ao, co, rfl, hso, hbo⟩ := HB.out.strs
      have hco := hso.cap
      unfold maxLen at hco
      have hN1 := hn.size
      clear hb hn hs hn2 hL hso hbo hLl
      go_wp2_with (at_builtin; refine wpList_append_own_at _ rfl _ _ 22 rfl w.heap.size 9 i1 _ 1 16 Tryz.underlying22 hj hy0 hy1 hy2 rfl (by decide) (.slice ao L.length co) L.length (L.map Value.string) rfl ?ow ⟨wr.heap.size + 1, 0, none⟩ 1 1 [.string s] rfl rfl ?hn ?h1 ?h63 ?hby ?hba ?_)
      case ow => exact ((HB.out.new ((Mod.refl _ _).alloc _)).new ((Mod.refl _ _).alloc _)).row
      case hn =>
        intro j u hj
        rw [addP]
        match j, hj with
        | 0, hj => simp at hj; subst hj; exact (Blk.newAt (by simp)).cellv 0 rfl
      case h1 => intro u hu; simp at hu; subst hu; rfl
      case h63 => unfold maxLen; omega
      case hby => omega
      case hba => simp; omega
      intro o3 w7 r7 g7 _ _
      have O7 : Hid (OwnT w7 w.heap.size o3 (L ++ [s])) := hid (ownT_of HB.out.small (by unfold maxLen; omega) r7)
      have N7 : Hid (New w w7) := hid (newGrownP ((HN.out.alloc _).alloc _) g7 (fun q hq => (HB.out.block hq).1))
      clear r7 g7
      go_wp2
      exact ⟨⟨k + 1, by simp, by omega, by rw [HTK.out]; exact O7.out, N7.out⟩, by simp [intOf]; omega⟩
    · obtain rfl : k = U.length := by omega
      rw [List.take_length] at HB
      clear hb hn
      go_wp2
      go_ret
      exact ⟨_, rfl, HB.out, HN.out⟩
end Go.Proofs.YtnflhjagmngimaaGreatDoor
