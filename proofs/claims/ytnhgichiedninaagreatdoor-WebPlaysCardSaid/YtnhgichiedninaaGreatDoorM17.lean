/-
  Several texts in one, in their build order. The walks of failed, and of ended and Failed where a run failed (package web). Conditions: the client lies as told. The walks of ended and Failed (package web) where a run failed. Conditions: the client lies as told.
-/
import Derived.Test.YtnhgichiedninaaGreatDoorM14
namespace Go.Proofs.YtnhgichiedninaaGreatDoor
set_option linter.unusedSimpArgs false
set_option linter.unusedVariables false
open Go.RowKit Go.Shelf

def SeedV.failS (s : SeedV) (now : Int) (gone : Bool) : SeedV := ⟨s.frm, s.cnt, s.under, s.fails + 1, s.bad, now + min (1000 * 2 ^ (s.fails + 1).toNat) 600000, gone || (s.out || decide (8 ≤ s.fails + 1))⟩
set_option maxRecDepth 100000 in
set_option maxHeartbeats 4000000 in
theorem cfailed_any (B SB cap MB : Nat) (ps : List Nat) (c : CliV) (G : List (Value × Value)) (k p : Nat) (s : SeedV) (w : World) (h : CliAt w B SB cap MB ps c G) (hp : ps[k]? = some p) (hs : c.seeds[k]? = some s) (hf : 0 ≤ s.fails ∧ s.fails ≤ 8) :
    Calls Tryz.prog 120 #[.pointer (some ⟨B, 0, none⟩), .pointer (some ⟨p, 0, none⟩)] w fun e w' => e = .returned (.tuple #[]) ∧ CliAt w' B SB cap MB ps { c with seeds := c.seeds.set k (s.failS c.now false) } G ∧ Mod (fun q => q = p) w w' := by
  have hP := h.each k p s hp hs
  have HC := hid h; have HPB := hid hP; have HP := hid hp
  have hRS := hid (h.runs s (List.mem_of_getElem? hs))
  have hpB : p ≠ B := fun e => h.bp.1 (e ▸ List.mem_of_getElem? hp)
  have p2 : w.cell? ⟨p, 3, none⟩ = some (.int .i64 s.fails) := hP.cellv 3 rfl
  have p5 : w.cell? ⟨p, 5, none⟩ = some (.int .i64 s.after) := hP.cellv 5 rfl
  have pl := hP.lt; have pf3 := hP.frz 3; have pf5 := hP.frz 5
  have c4 := h.row.cellv 4 rfl; have cl := h.row.lt
  have hn := h.nums
  obtain ⟨F3, hF3⟩ := Int.eq_ofNat_of_zero_le (show 0 ≤ s.fails + 1 by omega)
  obtain ⟨T, hT⟩ : ∃ T, (1000 : Int) * 2 ^ F3 = T := ⟨_, rfl⟩
  have hT9 : 0 ≤ T ∧ T ≤ 512000 := by
    have hF39 : F3 ≤ 9 := by omega
    have key : ∀ n : Nat, n ≤ 9 → (0 : Int) ≤ 1000 * 2 ^ n ∧ (1000 : Int) * 2 ^ n ≤ 512000 := by decide
    rw [← hT]; exact key F3 hF39
  have hfs : s.failS c.now false = ⟨s.frm, s.cnt, s.under, F3, s.bad, c.now + T, s.out || decide (8 ≤ (F3 : Int))⟩ := by
    unfold SeedV.failS
    rw [hF3, Int.toNat_natCast, hT, show min T 600000 = T by omega]
    simp
  have hwK : IntKind.i64.wrap (s.fails + 1) = (F3 : Int) := by rw [hF3, IntKind.wrap_i64]; omega
  obtain ⟨N, hN⟩ : ∃ N, N = c.now := ⟨_, rfl⟩
  have HFS : Hid (s.failS c.now false = ⟨s.frm, s.cnt, s.under, F3, s.bad, N + T, s.out || decide (8 ≤ (F3 : Int))⟩) := hid (by rw [hN]; exact hfs)
  rw [← hN] at c4 hn
  have hF38 : (F3 : Int) ≤ 9 := by omega
  have hm20 : ¬ (20 : Int) < (F3 : Int) := by omega
  have hm6 : ¬ (600000 : Int) < T := by omega
  have hwT : IntKind.i64.wrap T = T := by rw [IntKind.wrap_i64]; omega
  have hwN : IntKind.i64.wrap (N + T) = N + T := by rw [IntKind.wrap_i64]; omega
  clear h hP hp hs hfs hF3 hN
  go_enter Tryz.func120, Tryz.ntmps120
  go_wp2_with fail
  have P1 := hid (show Blk (w.setCell ⟨p, 3, none⟩ (.int .i64 F3)) p #[.int .i64 s.frm, .int .i64 s.cnt, .bool s.under, .int .i64 F3, .int .i64 s.bad, .int .i64 s.after, .bool s.out] 82 from (HPB.out.set 3 _).row (by simp [seedRow]))
  have d3 : (w.setCell ⟨p, 3, none⟩ (.int .i64 F3)).cell? ⟨p, 3, none⟩ = some (.int .i64 F3) := P1.out.cellv 3 rfl
  have d4 := blk_cell (p := ⟨p, 3, none⟩) (u := .int .i64 F3) hpB c4
  have P2 := hid (show Blk ((w.setCell ⟨p, 3, none⟩ (.int .i64 F3)).setCell ⟨p, 5, none⟩ (.int .i64 (N + T))) p #[.int .i64 s.frm, .int .i64 s.cnt, .bool s.under, .int .i64 F3, .int .i64 s.bad, .int .i64 (N + T), .bool s.out] 82 from (P1.out.set 5 _).row (by simp))
  have e3 : ((w.setCell ⟨p, 3, none⟩ (.int .i64 F3)).setCell ⟨p, 5, none⟩ (.int .i64 (N + T))).cell? ⟨p, 3, none⟩ = some (.int .i64 F3) := P2.out.cellv 3 rfl
  have e4 := blk_cell (p := ⟨p, 5, none⟩) (u := .int .i64 (N + T)) hpB d4
  refine wp_region_held_drew (S := (fun w' => w'.cell? ⟨p, 3, none⟩ = some (.int .i64 F3) ∧ w'.cell? ⟨B, 4, none⟩ = some (.int .i64 N))) (by kernel_rfl) ⟨d3, d4⟩ (fun hHeld => ?_)
  refine wpAnyH_take (i := 0) (v := ?_) (by simp only [List.getElem?_toArray, List.getElem?_cons_succ, List.getElem?_cons_zero]; rfl) (by kernel_rfl) (by kernel_rfl) (by kernel_rfl) (by intro _ _ _ h; exact h) (Or.inl ⟨by rfl, ?_⟩) (by assumption) ?_
  rotate_left
  · intro w hSw
    (try dsimp only at hSw)
    first | (go_simp; done) | (go_simp; with_reducible rfl) | with_reducible rfl
  simp only [Act.put, List.setIfInBounds_toArray, List.set_cons_zero, List.set_cons_succ]
  refine wpAnyH_take (i := 1) (v := ?_) (by simp only [List.getElem?_toArray, List.getElem?_cons_succ, List.getElem?_cons_zero]; rfl) (by kernel_rfl) (by kernel_rfl) (by kernel_rfl) (by intro _ _ _ h; exact h) (Or.inl ⟨by rfl, ?_⟩) (by assumption) ?_
  rotate_left
  · intro w hSw
    (try dsimp only at hSw)
    first | (go_simp; done) | (go_simp; with_reducible rfl) | with_reducible rfl
  simp only [Act.put, List.setIfInBounds_toArray, List.set_cons_zero, List.set_cons_succ]
  refine wpAnyH_take (i := 2) (v := ?_) (by simp only [List.getElem?_toArray, List.getElem?_cons_succ, List.getElem?_cons_zero]; rfl) (by kernel_rfl) (by kernel_rfl) (by kernel_rfl) (by intro _ _ _ h; exact h) (Or.inl ⟨by rfl, ?_⟩) (by assumption) ?_
  rotate_left
  · intro w hSw
    (try dsimp only at hSw)
    first | (go_simp; done) | (go_simp; with_reducible rfl) | with_reducible rfl
  simp only [Act.put, List.setIfInBounds_toArray, List.set_cons_zero, List.set_cons_succ]
  refine wpAnyH_take (i := 3) (v := ?_) (by simp only [List.getElem?_toArray, List.getElem?_cons_succ, List.getElem?_cons_zero]; rfl) (by kernel_rfl) (by kernel_rfl) (by kernel_rfl) (by intro _ _ _ h; exact h) (Or.inl ⟨by rfl, ?_⟩) (by assumption) ?_
  rotate_left
  · intro w hSw
    (try dsimp only at hSw)
    first | (go_simp; done) | (go_simp; with_reducible rfl) | with_reducible rfl
  simp only [Act.put, List.setIfInBounds_toArray, List.set_cons_zero, List.set_cons_succ]
  refine wpAnyH_take (i := 4) (v := ?_) (by simp only [List.getElem?_toArray, List.getElem?_cons_succ, List.getElem?_cons_zero]; rfl) (by kernel_rfl) (by kernel_rfl) (by kernel_rfl) (by intro _ _ _ h; exact h) (Or.inl ⟨by rfl, ?_⟩) (by assumption) ?_
  rotate_left
  · intro w hSw
    (try dsimp only at hSw)
    first | (go_simp; done) | (go_simp; with_reducible rfl) | with_reducible rfl
  simp only [Act.put, List.setIfInBounds_toArray, List.set_cons_zero, List.set_cons_succ]
  refine wpAnyH_take (i := 5) (v := ?_) (by simp only [List.getElem?_toArray, List.getElem?_cons_succ, List.getElem?_cons_zero]; rfl) (by kernel_rfl) (by kernel_rfl) (by kernel_rfl) (by intro _ _ _ h; exact h) (Or.inl ⟨by rfl, ?_⟩) (by assumption) ?_
  rotate_left
  · intro w hSw
    (try dsimp only at hSw)
    first | (go_simp; done) | (go_simp; with_reducible rfl) | with_reducible rfl
  simp only [Act.put, List.setIfInBounds_toArray, List.set_cons_zero, List.set_cons_succ]
  refine wpAnyH_take (i := 6) (v := ?_) (by simp only [List.getElem?_toArray, List.getElem?_cons_succ, List.getElem?_cons_zero]; rfl) (by kernel_rfl) (by kernel_rfl) (by kernel_rfl) (by intro _ _ _ h; exact h) (Or.inl ⟨by rfl, ?_⟩) (by assumption) ?_
  rotate_left
  · intro w hSw
    (try dsimp only at hSw)
    first | (go_simp; done) | (go_simp; with_reducible rfl) | with_reducible rfl
  simp only [Act.put, List.setIfInBounds_toArray, List.set_cons_zero, List.set_cons_succ]
  refine wpAnyH_take (i := 7) (v := ?_) (by simp only [List.getElem?_toArray, List.getElem?_cons_succ, List.getElem?_cons_zero]; rfl) (by kernel_rfl) (by kernel_rfl) (by kernel_rfl) (by intro _ _ _ h; exact h) (Or.inl ⟨by rfl, ?_⟩) (by assumption) ?_
  rotate_left
  · intro w hSw
    (try dsimp only at hSw)
    first | (go_simp; done) | (go_simp; with_reducible rfl) | with_reducible rfl
  simp only [Act.put, List.setIfInBounds_toArray, List.set_cons_zero, List.set_cons_succ]
  refine wpAnyH_take (i := 8) (v := ?_) (by simp only [List.getElem?_toArray, List.getElem?_cons_succ, List.getElem?_cons_zero]; rfl) (by kernel_rfl) (by kernel_rfl) (by kernel_rfl) (by intro _ _ _ h; exact h) (Or.inl ⟨by rfl, ?_⟩) (by assumption) ?_
  rotate_left
  · intro w hSw
    (try dsimp only at hSw)
    first | (go_simp; done) | (go_simp; with_reducible rfl) | with_reducible rfl
  simp only [Act.put, List.setIfInBounds_toArray, List.set_cons_zero, List.set_cons_succ]
  refine wpAnyH_take (i := 9) (v := ?_) (by simp only [List.getElem?_toArray, List.getElem?_cons_succ, List.getElem?_cons_zero]; rfl) (by kernel_rfl) (by kernel_rfl) (by kernel_rfl) (by intro _ _ _ h; exact h) (Or.inl ⟨by rfl, ?_⟩) (by assumption) ?_
  rotate_left
  · intro w hSw
    (try dsimp only at hSw)
    first | (go_simp; done) | (go_simp; with_reducible rfl) | with_reducible rfl
  simp only [Act.put, List.setIfInBounds_toArray, List.set_cons_zero, List.set_cons_succ]
  refine wpAnyH_take (i := 10) (v := ?_) (by simp only [List.getElem?_toArray, List.getElem?_cons_succ, List.getElem?_cons_zero]; rfl) (by kernel_rfl) (by kernel_rfl) (by kernel_rfl) (by intro _ _ _ h; exact h) (Or.inl ⟨by rfl, ?_⟩) (by assumption) ?_
  rotate_left
  · intro w hSw
    (try dsimp only at hSw)
    first | (go_simp; done) | (go_simp; with_reducible rfl) | with_reducible rfl
  simp only [Act.put, List.setIfInBounds_toArray, List.set_cons_zero, List.set_cons_succ]
  refine wpAnyH_take (i := 11) (v := ?_) (by simp only [List.getElem?_toArray, List.getElem?_cons_succ, List.getElem?_cons_zero]; rfl) (by kernel_rfl) (by kernel_rfl) (by kernel_rfl) (by intro _ _ _ h; exact h) (Or.inl ⟨by rfl, ?_⟩) (by assumption) ?_
  rotate_left
  · intro w hSw
    (try dsimp only at hSw)
    first | (go_simp; done) | (go_simp; with_reducible rfl) | with_reducible rfl
  simp only [Act.put, List.setIfInBounds_toArray, List.set_cons_zero, List.set_cons_succ]
  refine wpAnyH_take (i := 12) (v := ?_) (by simp only [List.getElem?_toArray, List.getElem?_cons_succ, List.getElem?_cons_zero]; rfl) (by kernel_rfl) (by kernel_rfl) (by kernel_rfl) (by intro _ _ _ h; exact h) (Or.inl ⟨by rfl, ?_⟩) (by assumption) ?_
  rotate_left
  · intro w hSw
    (try dsimp only at hSw)
    first | (go_simp; done) | (go_simp; with_reducible rfl) | with_reducible rfl
  simp only [Act.put, List.setIfInBounds_toArray, List.set_cons_zero, List.set_cons_succ]
  simp only [if_neg (show ¬ (20 : Int) < (F3 : Int) by omega), show min (F3 : Int) 20 = F3 by omega, Int.toNat_natCast, hT, hwT, if_neg (show ¬ (600000 : Int) < T by omega), show min T 600000 = T by omega, hwN]
  refine wpAnyH_take (i := 13) (v := ?_) (by simp only [List.getElem?_toArray, List.getElem?_cons_succ, List.getElem?_cons_zero]; rfl) (by kernel_rfl) (by kernel_rfl) (by kernel_rfl) (by intro _ _ _ h; exact h) (Or.inl ⟨by rfl, ?_⟩) (by assumption) ?_
  rotate_left
  · intro w hSw
    (try dsimp only at hSw)
    first | (go_simp; done) | (go_simp; with_reducible rfl) | with_reducible rfl
  simp only [Act.put, List.setIfInBounds_toArray, List.set_cons_zero, List.set_cons_succ]
  refine wpAnyH_take (i := 14) (v := ?_) (by simp only [List.getElem?_toArray, List.getElem?_cons_succ, List.getElem?_cons_zero]; rfl) (by kernel_rfl) (by kernel_rfl) (by kernel_rfl) (by intro _ _ _ h; exact h) (Or.inl ⟨by rfl, ?_⟩) (by assumption) ?_
  rotate_left
  · intro w hSw
    (try dsimp only at hSw)
    first | (go_simp; done) | (go_simp; with_reducible rfl) | with_reducible rfl
  simp only [Act.put, List.setIfInBounds_toArray, List.set_cons_zero, List.set_cons_succ]
  refine wpAnyH_ready (rs := [15]) (by kernel_rfl) (by simp) ?_
  refine AllReadyH.cons (by simp only [List.getElem?_toArray, List.getElem?_cons_succ, List.getElem?_cons_zero]; rfl) (fun K hK => ?_) AllReadyH.nil
  go_simp
  refine hK.out _ _ ⟨e3, e4⟩ (fun hHeld15 => ?_)
  clear hK K
  try simp only [Act.put, List.setIfInBounds_toArray, List.set_cons_zero, List.set_cons_succ]
  refine wpAnyH_done (by kernel_rfl) ?_ _
  refine name_worldZ (p := fun W => Exit.then _ _ _ _ W) (fun W4 hW4 => ?_)
  have P4 := hid (show Blk W4 p #[.int .i64 s.frm, .int .i64 s.cnt, .bool s.under, .int .i64 F3, .int .i64 s.bad, .int .i64 (N + T), .bool s.out] 82 by rw [hW4]; exact P2.out)
  have M4 := hid (show Mod (fun q => q = p) w W4 by rw [hW4]; exact Mod.set (S := fun q => q = p) (Mod.drew (Mod.set (S := fun q => q = p) (Mod.refl _ w) ⟨p, 3, none⟩ _ (.inl rfl))) ⟨p, 5, none⟩ _ (.inl rfl))
  clear hW4 d3 d4 e3 e4 p2 p5 pl pf3 pf5 c4 cl
  have q3 : W4.cell? ⟨p, 3, none⟩ = some (.int .i64 F3) := P4.out.cellv 3 rfl
  have q6 : W4.cell? ⟨p, 6, none⟩ = some (.bool s.out) := P4.out.cellv 6 rfl
  have ql := P4.out.lt; have qf := P4.out.frz 6
  cases ho : s.out with
  | true =>
    rw [ho] at q6
    have HO := hid ho
    clear ho
    go_wp2
    go_end0
    refine ⟨rfl, ?_, Mod.set (S := fun q => q = p) M4.out ⟨p, 6, none⟩ _ (.inl rfl)⟩
    rw [HFS.out, HO.out]
    exact HC.out.put HP.out ((P4.out.set 6 _).row (by simp [seedRow])) (Mod.set (S := fun q => q = p) M4.out ⟨p, 6, none⟩ _ (.inl rfl)) hRS.out
  | false =>
    rw [ho] at q6
    have HO := hid ho
    clear ho
    go_wp2
    go_end0
    refine ⟨rfl, ?_, Mod.set (S := fun q => q = p) M4.out ⟨p, 6, none⟩ _ (.inl rfl)⟩
    rw [HFS.out, HO.out]
    exact HC.out.put HP.out ((P4.out.set 6 _).row (by simp [seedRow])) (Mod.set (S := fun q => q = p) M4.out ⟨p, 6, none⟩ _ (.inl rfl)) hRS.out
end Go.Proofs.YtnhgichiedninaaGreatDoor

namespace Go.Proofs.YtnhgichiedninaaGreatDoor
set_option linter.unusedSimpArgs false
set_option linter.unusedVariables false
open Go.RowKit Go.Shelf

theorem fail_gone (s : SeedV) (now : Int) : s.failS now true = { s.failS now false with out := true } := by
  unfold SeedV.failS
  simp
set_option maxRecDepth 100000 in
set_option maxHeartbeats 2000000 in
theorem cends2_any (B SB cap MB : Nat) (ps : List Nat) (c : CliV) (G : List (Value × Value)) (k p X : Nat) (s : SeedV) (w : World) (h : CliAt w B SB cap MB ps c G) (hp : ps[k]? = some p) (hs : c.seeds[k]? = some s) (hf : 0 ≤ s.fails ∧ s.fails ≤ 8) (hx : w.cell? ⟨X, 0, none⟩ = some (.pointer (some ⟨B, 0, none⟩))) :
    Calls Tryz.prog 121 #[.pointer (some ⟨p, 0, none⟩), .pointer (some ⟨X, 0, none⟩)] w fun e w' => e = .returned (.tuple #[]) ∧ CliAt w' B SB cap MB ps { c with seeds := c.seeds.set k (s.failS c.now true) } G ∧ Mod (fun q => q = p) w w' := by
  have HCF := hid (cfailed_any B SB cap MB ps c G k p s w h hp hs hf)
  have HC := hid h; have HP := hid hp
  have hRS := hid (h.runs s (List.mem_of_getElem? hs))
  have hkl := (List.getElem?_eq_some_iff.1 hs).1
  have xl := World.block_lt_of_cell? _ _ hx
  clear h hp hs
  go_enter Tryz.func121, Tryz.ntmps121
  go_wp2_with fail
  refine HCF.out.mono ?_
  rintro e w1 ⟨rfl, h1, h3⟩
  have P1 : Hid (Blk w1 p (seedRow (s.failS c.now false)) 82) := hid (h1.each k p _ HP.out (by
    show (c.seeds.set k (s.failS c.now false))[k]? = _
    rw [List.getElem?_set_self hkl]))
  have H3 := hid h3
  have pl := P1.out.lt; have pf := P1.out.frz 6
  have p6 : w1.cell? ⟨p, 6, none⟩ = some (.bool (s.failS c.now false).out) := P1.out.cellv 6 rfl
  clear h1 h3
  go_wp2
  go_end0
  refine ⟨rfl, ?_, Mod.set (S := fun q => q = p) H3.out ⟨p, 6, none⟩ _ (.inl rfl)⟩
  exact HC.out.put HP.out ((P1.out.set 6 _).row (by rw [fail_gone]; simp [seedRow])) (Mod.set (S := fun q => q = p) H3.out ⟨p, 6, none⟩ _ (.inl rfl)) hRS.out
theorem idx3_1 (f0 f1 f2 : Fn) (a0 b0 a1 b1 a2 b2 : Array Value) (w : World) : (Instr.index 140 (.agg #[.func f0 a0 b0, .func f1 a1 b1, .func f2 a2 b2]) (.int .i64 1)).run Tryz.prog w = .ok (.func f1 a1 b1) w := by
  have hs : ∀ w, (sizeOf 139).run Tryz.prog w = .ok 1 w := fun w => by
    have := Tryz.sizeOf139
    simp [this]
  simp [Instr.index, asIntOf, run_underlying Tryz.underlying140, Result.andThen, go_sem, part, hs, run_underlying Tryz.underlying139]
theorem idx3_2 (f0 f1 f2 : Fn) (a0 b0 a1 b1 a2 b2 : Array Value) (w : World) : (Instr.index 140 (.agg #[.func f0 a0 b0, .func f1 a1 b1, .func f2 a2 b2]) (.int .i64 2)).run Tryz.prog w = .ok (.func f2 a2 b2) w := by
  have hs : ∀ w, (sizeOf 139).run Tryz.prog w = .ok 1 w := fun w => by
    have := Tryz.sizeOf139
    simp [this]
  simp [Instr.index, asIntOf, run_underlying Tryz.underlying140, Result.andThen, go_sem, part, hs, run_underlying Tryz.underlying139]
def CliV.failC (c : CliV) (now : Int) (k : Nat) (s : SeedV) (gone : Bool) : CliV := ⟨c.seeds.set k (s.idle.failS now gone), c.n, c.want, c.run, now⟩
set_option maxRecDepth 100000 in
set_option maxHeartbeats 8000000 in
theorem cended_fail (B SB cap MB : Nat) (ps : List Nat) (c : CliV) (G : List (Value × Value)) (now : Int) (k : Nat) (s : SeedV) (gone : Bool) (w : World) (h : CliAt w B SB cap MB ps c G) (hs : c.seeds[k]? = some s) (hok : c.tookE now k = 0) (hf : 0 ≤ s.fails ∧ s.fails ≤ 8) :
    Calls Tryz.prog 42 #[.pointer (some ⟨B, 0, none⟩), .int .i64 now, .int .i64 k, .int .i64 (if gone then 2 else 1)] w fun e w' => e = .returned (.tuple #[.agg #[.int .i64 s.frm, .int .i64 s.cnt], .int .i64 0]) ∧ CliAt w' B SB cap MB ps (c.failC now k s gone) G ∧ Mod (CliT B MB ps) w w' := by
  have hkl := (List.getElem?_eq_some_iff.1 hs).1
  have hA : c.atE now = 0 ∧ s.under = true := by
    unfold CliV.tookE at hok
    rw [if_neg (by omega)] at hok
    by_cases hz : c.atE now = 0
    · rw [if_neg (by simpa using hz), Int.toNat_natCast, hs] at hok
      simp only at hok
      refine ⟨hz, ?_⟩
      cases hu : s.under with
      | true => rfl
      | false => rw [hu] at hok; simp at hok
    · rw [if_pos hz] at hok
      exact absurd hok hz
  obtain ⟨ha0, hu⟩ := hA
  obtain ⟨t0, t1⟩ := at_facts ha0
  have HAT := hid (fun W (q : New w W) => ha0 ▸ cat_any B SB cap MB ps c G now W (h.new q))
  have hr := h.room; have hfw := h.few; have hnn := h.nums; have hrs := h.runs s (List.mem_of_getElem? hs)
  unfold maxLen at hr
  have hpl' : k < ps.length := by rw [h.len]; exact hkl
  obtain ⟨p, hp⟩ : ∃ p, ps[k]? = some p := ⟨ps[k], List.getElem?_eq_getElem hpl'⟩
  have hP := h.each k p s hp hs
  have HC := hid h; have HP := hid hp; have HS := hid hs; have HRS := hid hrs; have HF := hid hf
  have hmem := hid (List.mem_of_getElem? hp)
  have hpB := hid (show p ≠ B from fun e => h.bp.1 (e ▸ List.mem_of_getElem? hp))
  have HBL := hid h.below
  have c0 := h.row.cellv 0 rfl; have c4 := h.row.cellv 4 rfl; have cl := h.row.lt; have cf := h.row.frz 4
  have s0 := h.ptr k p hp; have sl := h.slt
  have p2 : w.cell? ⟨p, 2, none⟩ = some (.bool true) := by rw [← hu]; exact hP.cellv 2 rfl
  have pl := hP.lt; have pf := hP.frz 2
  have HPP := hid hP
  have hne : p ≠ B := hpB.out
  have hkI : ¬ (c.seeds.length : Int) ≤ (k : Int) := by omega
  have N2 : Hid (New w (w.alloc (.cells #[.int .i64 0, .int .i64 0] 34))) := hid ((Mod.refl _ _).alloc _)
  clear h hs hok ha0 hrs hp hP hf
  cases gone with
  | false =>
    show Calls _ _ #[_, _, _, .int .i64 1] _ _
    go_enter Tryz.func42, Tryz.ntmps42
    go_wp2_with (first | (go_at_call 36; refine (HAT.out _ N2.out).mono ?_; rintro e w1 ⟨rfl, rfl⟩) | fail)
    refine name_worldZ (p := fun W => Calls _ _ _ W _) (fun W3 hW3 => ?_)
    have C3 : Hid (CliAt W3 B SB cap MB ps ⟨c.seeds.set k s.idle, c.n, c.want, c.run, now⟩ G) := hid (by
      rw [hW3]
      have h1 := HC.out.time (t := now) ⟨by omega, t1⟩
      have h2 := h1.put (w' := (w.setCell ⟨B, 4, none⟩ (.int .i64 now)).setCell ⟨p, 2, none⟩ (.bool false)) (s := s.idle) HP.out (((Blk.other (p := ⟨B, 4, none⟩) hne HPP.out).set 2 _).row (by simp [seedRow, SeedV.idle])) (Mod.set (S := fun q => q = p) (Mod.refl _ _) ⟨p, 2, none⟩ _ (.inl rfl)) HRS.out
      exact h2.new ((Mod.refl _ _).alloc _))
    have M3 : Hid (Mod (CliT B MB ps) w W3) := hid (by
      rw [hW3]
      exact Mod.alloc (Mod.set (S := CliT B MB ps) (Mod.set (S := CliT B MB ps) (Mod.refl _ _) ⟨B, 4, none⟩ _ (.inl (.inl rfl))) ⟨p, 2, none⟩ _ (.inl (.inr (.inr hmem.out)))) _)
    have R3 : Hid (Blk W3 w.heap.size #[.int .i64 0, .int .i64 0] 34) := hid (by rw [hW3]; exact Blk.newAt (by simp))
    clear hW3 c0 c4 cl cf s0 sl p2 pl pf
    refine (cends_any B k W3).mono ?_
    rintro e w4 ⟨rfl, x4, y4, n4⟩
    have X4 := hid (x4.cellv 0 rfl)
    have C4 := hid (C3.out.new n4); have M4 := hid (M3.out.trans n4.mod); have R4 := hid (New.blk n4 R3.out)
    have HKS := hid (show (c.seeds.set k s.idle)[k]? = some s.idle by rw [List.getElem?_set_self hkl])
    have HEN := hid (cfailed_any B SB cap MB ps ⟨c.seeds.set k s.idle, c.n, c.want, c.run, now⟩ G k p s.idle w4 C4.out HP.out HKS.out HF.out)
    clear x4 y4 n4
    have hidx := idx3_1
    go_wp2_with fail
    refine HEN.out.mono ?_
    rintro e w5 ⟨rfl, c5, m5⟩
    have C5 := hid c5
    have M5 := hid (M4.out.trans (m5.mono (fun q _ e => .inr (.inr (by have e2 : q = p := e; rw [e2]; exact hmem.out)))))
    have hpR : p ≠ w.heap.size := fun e => (HBL.out w.heap.size (Nat.le_refl _)).2.2.2 (e ▸ hmem.out)
    have R5 := hid (m5.blk R4.out (fun e => hpR (by have e2 : w.heap.size = p := e; exact e2.symm)))
    have hss : ∀ x y : SeedV, (c.seeds.set k x).set k y = c.seeds.set k y := fun x y => List.set_set ..
    have P5 : Blk w5 p (seedRow (s.idle.failS now false)) 82 := c5.each k p _ HP.out (by
      show ((c.seeds.set k s.idle).set k (s.idle.failS now false))[k]? = _
      rw [hss, List.getElem?_set_self hkl])
    have p0 : w5.cell? ⟨p, 0, none⟩ = some (.int .i64 s.frm) := P5.cellv 0 rfl
    have p1 : w5.cell? ⟨p, 1, none⟩ = some (.int .i64 s.cnt) := P5.cellv 1 rfl
    have pl := P5.lt
    have r0 := R5.out.cellv 0 rfl; have r1 := R5.out.cellv 1 rfl; have rl := R5.out.lt; have rf0 := R5.out.frz 0; have rf1 := R5.out.frz 1
    have HSS := hid hss
    clear c5 m5 P5 hidx hss
    go_wp2
    refine name_worldZ (p := fun W => bodyPost _ _ _ _ _ W) (fun W6 hW6 => ?_)
    have K6 : Blk W6 w.heap.size #[.int .i64 s.frm, .int .i64 s.cnt] 34 := by
      rw [hW6]
      exact ((R5.out.set 0 _).set 1 _).row (by simp)
    have M6 : Mod (fun q => q = w.heap.size) w5 W6 := by
      rw [hW6]
      exact Mod.set (S := fun q => q = w.heap.size) (Mod.set (S := fun q => q = w.heap.size) (Mod.refl _ _) ⟨w.heap.size, 0, none⟩ _ (.inl rfl)) ⟨w.heap.size, 1, none⟩ _ (.inl rfl)
    have q0 := K6.cellv 0 rfl; have q1 := K6.cellv 1 rfl
    clear hW6
    refine bodyPost_ret (v := .tuple #[.agg #[.int .i64 s.frm, .int .i64 s.cnt], .int .i64 0]) (by simp [results, Tryz.results42, go_sem, q0, q1]) rfl ⟨rfl, ?_, ?_⟩
    · have := C5.out.other M6 (fun q e => HBL.out q (by have e2 : q = w.heap.size := e; omega))
      simp only [HSS.out] at this
      exact this
    · exact M5.out.trans' M6 (fun q hq e => by have e2 : q = w.heap.size := e; omega)
  | true =>
    show Calls _ _ #[_, _, _, .int .i64 2] _ _
    go_enter Tryz.func42, Tryz.ntmps42
    go_wp2_with (first | (go_at_call 36; refine (HAT.out _ N2.out).mono ?_; rintro e w1 ⟨rfl, rfl⟩) | fail)
    refine name_worldZ (p := fun W => Calls _ _ _ W _) (fun W3 hW3 => ?_)
    have C3 : Hid (CliAt W3 B SB cap MB ps ⟨c.seeds.set k s.idle, c.n, c.want, c.run, now⟩ G) := hid (by
      rw [hW3]
      have h1 := HC.out.time (t := now) ⟨by omega, t1⟩
      have h2 := h1.put (w' := (w.setCell ⟨B, 4, none⟩ (.int .i64 now)).setCell ⟨p, 2, none⟩ (.bool false)) (s := s.idle) HP.out (((Blk.other (p := ⟨B, 4, none⟩) hne HPP.out).set 2 _).row (by simp [seedRow, SeedV.idle])) (Mod.set (S := fun q => q = p) (Mod.refl _ _) ⟨p, 2, none⟩ _ (.inl rfl)) HRS.out
      exact h2.new ((Mod.refl _ _).alloc _))
    have M3 : Hid (Mod (CliT B MB ps) w W3) := hid (by
      rw [hW3]
      exact Mod.alloc (Mod.set (S := CliT B MB ps) (Mod.set (S := CliT B MB ps) (Mod.refl _ _) ⟨B, 4, none⟩ _ (.inl (.inl rfl))) ⟨p, 2, none⟩ _ (.inl (.inr (.inr hmem.out)))) _)
    have R3 : Hid (Blk W3 w.heap.size #[.int .i64 0, .int .i64 0] 34) := hid (by rw [hW3]; exact Blk.newAt (by simp))
    clear hW3 c0 c4 cl cf s0 sl p2 pl pf
    refine (cends_any B k W3).mono ?_
    rintro e w4 ⟨rfl, x4, y4, n4⟩
    have X4 := hid (x4.cellv 0 rfl)
    have C4 := hid (C3.out.new n4); have M4 := hid (M3.out.trans n4.mod); have R4 := hid (New.blk n4 R3.out)
    have HKS := hid (show (c.seeds.set k s.idle)[k]? = some s.idle by rw [List.getElem?_set_self hkl])
    have HEN := hid (cends2_any B SB cap MB ps ⟨c.seeds.set k s.idle, c.n, c.want, c.run, now⟩ G k p W3.heap.size s.idle w4 C4.out HP.out HKS.out HF.out X4.out)
    clear x4 y4 n4
    have hidx := idx3_2
    go_wp2_with fail
    refine HEN.out.mono ?_
    rintro e w5 ⟨rfl, c5, m5⟩
    have C5 := hid c5
    have M5 := hid (M4.out.trans (m5.mono (fun q _ e => .inr (.inr (by have e2 : q = p := e; rw [e2]; exact hmem.out)))))
    have hpR : p ≠ w.heap.size := fun e => (HBL.out w.heap.size (Nat.le_refl _)).2.2.2 (e ▸ hmem.out)
    have R5 := hid (m5.blk R4.out (fun e => hpR (by have e2 : w.heap.size = p := e; exact e2.symm)))
    have hss : ∀ x y : SeedV, (c.seeds.set k x).set k y = c.seeds.set k y := fun x y => List.set_set ..
    have P5 : Blk w5 p (seedRow (s.idle.failS now true)) 82 := c5.each k p _ HP.out (by
      show ((c.seeds.set k s.idle).set k (s.idle.failS now true))[k]? = _
      rw [hss, List.getElem?_set_self hkl])
    have p0 : w5.cell? ⟨p, 0, none⟩ = some (.int .i64 s.frm) := P5.cellv 0 rfl
    have p1 : w5.cell? ⟨p, 1, none⟩ = some (.int .i64 s.cnt) := P5.cellv 1 rfl
    have pl := P5.lt
    have r0 := R5.out.cellv 0 rfl; have r1 := R5.out.cellv 1 rfl; have rl := R5.out.lt; have rf0 := R5.out.frz 0; have rf1 := R5.out.frz 1
    have HSS := hid hss
    clear c5 m5 P5 hidx hss
    go_wp2
    refine name_worldZ (p := fun W => bodyPost _ _ _ _ _ W) (fun W6 hW6 => ?_)
    have K6 : Blk W6 w.heap.size #[.int .i64 s.frm, .int .i64 s.cnt] 34 := by
      rw [hW6]
      exact ((R5.out.set 0 _).set 1 _).row (by simp)
    have M6 : Mod (fun q => q = w.heap.size) w5 W6 := by
      rw [hW6]
      exact Mod.set (S := fun q => q = w.heap.size) (Mod.set (S := fun q => q = w.heap.size) (Mod.refl _ _) ⟨w.heap.size, 0, none⟩ _ (.inl rfl)) ⟨w.heap.size, 1, none⟩ _ (.inl rfl)
    have q0 := K6.cellv 0 rfl; have q1 := K6.cellv 1 rfl
    clear hW6
    refine bodyPost_ret (v := .tuple #[.agg #[.int .i64 s.frm, .int .i64 s.cnt], .int .i64 0]) (by simp [results, Tryz.results42, go_sem, q0, q1]) rfl ⟨rfl, ?_, ?_⟩
    · have := C5.out.other M6 (fun q e => HBL.out q (by have e2 : q = w.heap.size := e; omega))
      simp only [HSS.out] at this
      exact this
    · exact M5.out.trans' M6 (fun q hq e => by have e2 : q = w.heap.size := e; omega)
end Go.Proofs.YtnhgichiedninaaGreatDoor
