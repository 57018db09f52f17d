/-
  Several texts in one, in their build order. The walk of came (package web): a run that came. Conditions: the client lies as told. A place of an array of three functions. No condition.
-/
import Derived.Test.YtnhgichiedninaaGreatDoorM12
namespace Go.Proofs.YtnhgichiedninaaGreatDoor
set_option linter.unusedSimpArgs false
set_option linter.unusedVariables false
open Go.RowKit Go.Shelf

def SeedV.fresh (s : SeedV) : SeedV := ⟨s.frm, s.cnt, s.under, 0, s.bad, 0, s.out⟩
def CliV.cameC (c : CliV) (k : Nat) (s : SeedV) : CliV := ⟨c.seeds.set k s.fresh, c.n, clearW c.want s.frm.toNat s.cnt.toNat, c.run, c.now⟩
set_option maxRecDepth 100000 in
set_option maxHeartbeats 4000000 in
theorem ccame_any (B SB cap MB : Nat) (ps : List Nat) (c : CliV) (G : List (Value × Value)) (f : Nat → Option Nat) (k p web : Nat) (s : SeedV) (w : World) (h : CliAt w B SB cap MB ps c G) (hG : GvAt G f) (hp : ps[k]? = some p) (hs : c.seeds[k]? = some s) :
    Calls Tryz.prog 119 #[.pointer (some ⟨B, 0, none⟩), .int .i64 web, .pointer (some ⟨p, 0, none⟩)] w fun e w' => e = .returned (.tuple #[]) ∧ ∃ G', CliAt w' B SB cap MB ps (c.cameC k s) G' ∧ GvAt G' (gaveTo f s.frm.toNat web s.cnt.toNat) ∧ Mod (CliT B MB ps) w w' := by
  have hrs := h.runs s (List.mem_of_getElem? hs)
  have hn1 := h.n1
  have hP := h.each k p s hp hs
  have HC := hid h; have HP := hid hp; have HPB := hid hP; have HG := hid hG
  have p3 : w.cell? ⟨p, 3, none⟩ = some (.int .i64 s.fails) := hP.cellv 3 rfl
  have p5 : w.cell? ⟨p, 5, none⟩ = some (.int .i64 s.after) := hP.cellv 5 rfl
  have pl := hP.lt; have pf3 := hP.frz 3; have pf5 := hP.frz 5
  obtain ⟨a, ha⟩ := Int.eq_ofNat_of_zero_le hrs.1
  obtain ⟨n, hn⟩ := Int.eq_ofNat_of_zero_le hrs.2.1
  have HA := hid ha; have HN := hid hn
  have p0 : w.cell? ⟨p, 0, none⟩ = some (.int .i64 a) := by rw [← ha]; exact hP.cellv 0 rfl
  have han : a + n ≤ c.n := by omega
  have hmem := hid (List.mem_of_getElem? hp)
  have hkl := (List.getElem?_eq_some_iff.1 hs).1
  have HRS := hid hrs
  clear h hp hP hs hG hrs ha hn
  go_enter Tryz.func119, Tryz.ntmps119
  go_wp2
  have HM1 : Hid (Mod (fun q => q = p) w ((w.setCell ⟨p, 3, none⟩ (.int .i64 0)).setCell ⟨p, 5, none⟩ (.int .i64 0))) := hid (Mod.set (S := fun q => q = p) (Mod.set (S := fun q => q = p) (Mod.refl _ _) ⟨p, 3, none⟩ _ (.inl rfl)) ⟨p, 5, none⟩ _ (.inl rfl))
  have HP1 : Hid (Blk ((w.setCell ⟨p, 3, none⟩ (.int .i64 0)).setCell ⟨p, 5, none⟩ (.int .i64 0)) p (seedRow s.fresh) 82) := hid (((HPB.out.set 3 _).set 5 _).row (by simp [seedRow, SeedV.fresh]))
  have HC1 := hid (HC.out.put (s := s.fresh) HP.out HP1.out HM1.out HRS.out)
  obtain ⟨W1, hW1⟩ : ∃ W1, W1 = (w.setCell ⟨p, 3, none⟩ (.int .i64 0)).setCell ⟨p, 5, none⟩ (.int .i64 0) := ⟨_, rfl⟩
  rw [← hW1] at HM1 HP1 HC1
  rw [← hW1]
  clear hW1 p0 p3 p5 pl pf3 pf5
  go_loopw [6] (fun x wr => ∃ (j : Nat) (G' : List (Value × Value)), x = .int .i64 ((a + j : Nat) : Int) ∧ j ≤ n ∧ CliAt wr B SB cap MB ps ⟨c.seeds.set k s.fresh, c.n, clearW c.want a j, c.run, c.now⟩ G' ∧ GvAt G' (gaveTo f a web j) ∧ Mod (CliT B MB ps) W1 wr ∧ Blk wr p (seedRow s.fresh) 82) (fun x _ => a + n - (intOf x).toNat)
  case atStart => exact ⟨0, G, by simp, by omega, HC1.out, HG.out, Mod.refl _ _, HP1.out⟩
  case round =>
    obtain ⟨j, G', rfl, hj, hc, hg, hm, hb⟩ := hrel
    have HCR := hid hc; have HGR := hid hg; have HMR := hid hm; have HBR := hid hb
    have p0 : wr.cell? ⟨p, 0, none⟩ = some (.int .i64 a) := by rw [← HA.out]; exact hb.cellv 0 rfl
    have p1 : wr.cell? ⟨p, 1, none⟩ = some (.int .i64 n) := by rw [← HN.out]; exact hb.cellv 1 rfl
    have pl := hb.lt
    have hw : IntKind.i64.wrap ((a : Int) + (n : Int)) = (a : Int) + (n : Int) := by rw [IntKind.wrap_i64]; omega
    obtain ⟨i, hi⟩ : ∃ i, i = a + j := ⟨_, rfl⟩
    rw [← hi]
    have HI := hid hi
    by_cases hlt : j < n
    · have hltI : (i : Int) < (a : Int) + (n : Int) := by omega
      have HWA := cwant_any B SB cap MB ps _ G' i false wr.drew (hc.new (Mod.refl (fun _ => False) wr).drew) (show i < c.n by omega)
      have HWA := hid HWA
      clear hc hg hm hb hi
      go_wp2_with fail
      refine wp_region_held_drew (S := (fun w' => w'.cell? ⟨p, 0, none⟩ = some (.int .i64 a) ∧ w'.cell? ⟨p, 1, none⟩ = some (.int .i64 n))) (by kernel_rfl) ⟨p0, p1⟩ (fun hHeld => ?_)
      refine wpAnyH_take (i := 0) (v := ?_) (by simp only [List.getElem?_toArray, List.getElem?_cons_succ, List.getElem?_cons_zero]; rfl) (by kernel_rfl) (by kernel_rfl) (by kernel_rfl) (by intro _ _ _ h; exact h) (Or.inl ⟨by rfl, ?_⟩) (by assumption) ?_
      rotate_left
      · intro w hSw
        (try dsimp only at hSw)
        first | (go_simp; done) | (go_simp; with_reducible rfl) | with_reducible rfl
      simp only [Act.put, List.setIfInBounds_toArray, List.set_cons_zero, List.set_cons_succ]
      refine wpAnyH_take (i := 1) (v := ?_) (by simp only [List.getElem?_toArray, List.getElem?_cons_succ, List.getElem?_cons_zero]; rfl) (by kernel_rfl) (by kernel_rfl) (by kernel_rfl) (by intro _ _ _ h; exact h) (Or.inl ⟨by rfl, ?_⟩) (by assumption) ?_
      rotate_left
      · intro w hSw
        (try dsimp only at hSw)
        first | (go_simp; done) | (go_simp; with_reducible rfl) | with_reducible rfl
      simp only [Act.put, List.setIfInBounds_toArray, List.set_cons_zero, List.set_cons_succ]
      refine wpAnyH_take (i := 2) (v := ?_) (by simp only [List.getElem?_toArray, List.getElem?_cons_succ, List.getElem?_cons_zero]; rfl) (by kernel_rfl) (by kernel_rfl) (by kernel_rfl) (by intro _ _ _ h; exact h) (Or.inl ⟨by rfl, ?_⟩) (by assumption) ?_
      rotate_left
      · intro w hSw
        (try dsimp only at hSw)
        first | (go_simp; done) | (go_simp; with_reducible rfl) | with_reducible rfl
      simp only [Act.put, List.setIfInBounds_toArray, List.set_cons_zero, List.set_cons_succ]
      refine wpAnyH_take (i := 3) (v := ?_) (by simp only [List.getElem?_toArray, List.getElem?_cons_succ, List.getElem?_cons_zero]; rfl) (by kernel_rfl) (by kernel_rfl) (by kernel_rfl) (by intro _ _ _ h; exact h) (Or.inl ⟨by rfl, ?_⟩) (by assumption) ?_
      rotate_left
      · intro w hSw
        (try dsimp only at hSw)
        first | (go_simp; done) | (go_simp; with_reducible rfl) | with_reducible rfl
      simp only [Act.put, List.setIfInBounds_toArray, List.set_cons_zero, List.set_cons_succ]
      refine wpAnyH_take (i := 4) (v := ?_) (by simp only [List.getElem?_toArray, List.getElem?_cons_succ, List.getElem?_cons_zero]; rfl) (by kernel_rfl) (by kernel_rfl) (by kernel_rfl) (by intro _ _ _ h; exact h) (Or.inl ⟨by rfl, ?_⟩) (by assumption) ?_
      rotate_left
      · intro w hSw
        (try dsimp only at hSw)
        first | (go_simp; done) | (go_simp; with_reducible rfl) | with_reducible rfl
      simp only [Act.put, List.setIfInBounds_toArray, List.set_cons_zero, List.set_cons_succ]
      refine wpAnyH_take (i := 5) (v := ?_) (by simp only [List.getElem?_toArray, List.getElem?_cons_succ, List.getElem?_cons_zero]; rfl) (by kernel_rfl) (by kernel_rfl) (by kernel_rfl) (by intro _ _ _ h; exact h) (Or.inl ⟨by rfl, ?_⟩) (by assumption) ?_
      rotate_left
      · intro w hSw
        (try dsimp only at hSw)
        first | (go_simp; done) | (go_simp; with_reducible rfl) | with_reducible rfl
      simp only [Act.put, List.setIfInBounds_toArray, List.set_cons_zero, List.set_cons_succ]
      refine wpAnyH_take (i := 6) (v := ?_) (by simp only [List.getElem?_toArray, List.getElem?_cons_succ, List.getElem?_cons_zero]; rfl) (by kernel_rfl) (by kernel_rfl) (by kernel_rfl) (by intro _ _ _ h; exact h) (Or.inl ⟨by rfl, ?_⟩) (by assumption) ?_
      rotate_left
      · intro w hSw
        (try dsimp only at hSw)
        first | (go_simp; done) | (go_simp; with_reducible rfl) | with_reducible rfl
      simp only [Act.put, List.setIfInBounds_toArray, List.set_cons_zero, List.set_cons_succ]
      refine wpAnyH_take (i := 7) (v := ?_) (by simp only [List.getElem?_toArray, List.getElem?_cons_succ, List.getElem?_cons_zero]; rfl) (by kernel_rfl) (by kernel_rfl) (by kernel_rfl) (by intro _ _ _ h; exact h) (Or.inl ⟨by rfl, ?_⟩) (by assumption) ?_
      rotate_left
      · intro w hSw
        (try dsimp only at hSw)
        first | (go_simp; done) | (go_simp; with_reducible rfl) | with_reducible rfl
      simp only [Act.put, List.setIfInBounds_toArray, List.set_cons_zero, List.set_cons_succ]
      refine wpAnyH_take (i := 8) (v := ?_) (by simp only [List.getElem?_toArray, List.getElem?_cons_succ, List.getElem?_cons_zero]; rfl) (by kernel_rfl) (by kernel_rfl) (by kernel_rfl) (by intro _ _ _ h; exact h) (Or.inl ⟨by rfl, ?_⟩) (by assumption) ?_
      rotate_left
      · intro w hSw
        (try dsimp only at hSw)
        first | (go_simp; done) | (go_simp; with_reducible rfl) | with_reducible rfl
      simp only [Act.put, List.setIfInBounds_toArray, List.set_cons_zero, List.set_cons_succ]
      refine wpAnyH_take (i := 9) (v := ?_) (by simp only [List.getElem?_toArray, List.getElem?_cons_succ, List.getElem?_cons_zero]; rfl) (by kernel_rfl) (by kernel_rfl) (by kernel_rfl) (by intro _ _ _ h; exact h) (Or.inl ⟨by rfl, ?_⟩) (by assumption) ?_
      rotate_left
      · intro w hSw
        (try dsimp only at hSw)
        first | (go_simp; done) | (go_simp; with_reducible rfl) | with_reducible rfl
      simp only [Act.put, List.setIfInBounds_toArray, List.set_cons_zero, List.set_cons_succ]
      refine wpAnyH_take (i := 10) (v := ?_) (by simp only [List.getElem?_toArray, List.getElem?_cons_succ, List.getElem?_cons_zero]; rfl) (by kernel_rfl) (by kernel_rfl) (by kernel_rfl) (by intro _ _ _ h; exact h) (Or.inl ⟨by rfl, ?_⟩) (by assumption) ?_
      rotate_left
      · intro w hSw
        (try dsimp only at hSw)
        first | (go_simp; done) | (go_simp; with_reducible rfl) | with_reducible rfl
      simp only [Act.put, List.setIfInBounds_toArray, List.set_cons_zero, List.set_cons_succ]
      refine wpAnyH_take (i := 11) (v := ?_) (by simp only [List.getElem?_toArray, List.getElem?_cons_succ, List.getElem?_cons_zero]; rfl) (by kernel_rfl) (by kernel_rfl) (by kernel_rfl) (by intro _ _ _ h; exact h) (Or.inl ⟨by rfl, ?_⟩) (by assumption) ?_
      rotate_left
      · intro w hSw
        (try dsimp only at hSw)
        first | (go_simp; done) | (go_simp; with_reducible rfl) | with_reducible rfl
      simp only [Act.put, List.setIfInBounds_toArray, List.set_cons_zero, List.set_cons_succ]
      refine wpAnyH_take (i := 12) (v := ?_) (by simp only [List.getElem?_toArray, List.getElem?_cons_succ, List.getElem?_cons_zero]; rfl) (by kernel_rfl) (by kernel_rfl) (by kernel_rfl) (by intro _ _ _ h; exact h) (Or.inl ⟨by rfl, ?_⟩) (by assumption) ?_
      rotate_left
      · intro w hSw
        (try dsimp only at hSw)
        first | (go_simp; done) | (go_simp; with_reducible rfl) | with_reducible rfl
      simp only [Act.put, List.setIfInBounds_toArray, List.set_cons_zero, List.set_cons_succ]
      refine wpAnyH_done (by kernel_rfl) ?_ _
      go_wp2_with fail
      refine HWA.out.mono ?_
      rintro e w2 ⟨rfl, c2, m2⟩
      obtain ⟨w3, G3, hrun, c3, g3, m3⟩ := gave_put c2 HGR.out i web
      have HC3 := hid c3; have HG3 := hid g3
      have m5 := c2.row.cellv 5 rfl; have ml := c2.row.lt
      have HM3 : Hid (Mod (CliT B MB ps) W1 w3) := hid ((HMR.out.drew.trans (m2.mono (fun q _ e => .inl e))).trans (m3.mono (fun q _ e => .inr (.inl e))))
      have HB3 := hid (show Blk w3 p (seedRow s.fresh) 82 by
        have := c3.each k p s.fresh HP.out (by show (c.seeds.set k s.fresh)[k]? = _; rw [List.getElem?_set_self hkl])
        exact this)
      clear c2 m2 c3 g3 m3 p0 p1 pl
      go_wp2
      refine ⟨⟨j + 1, G3, by have := HI.out; simp; omega, by omega, ?_, ?_, HM3.out, HB3.out⟩, by have := HI.out; simp [intOf]; omega⟩
      · have := HC3.out
        rw [HI.out] at this
        exact this
      · have := HG3.out
        rw [HI.out] at this
        exact this
    · obtain rfl : j = n := by omega
      have hltI : ¬ (i : Int) < (a : Int) + (j : Int) := by omega
      clear hc hg hm hb hi
      go_wp2_with fail
      refine wp_region_held_drew (S := (fun w' => w'.cell? ⟨p, 0, none⟩ = some (.int .i64 a) ∧ w'.cell? ⟨p, 1, none⟩ = some (.int .i64 j))) (by kernel_rfl) ⟨p0, p1⟩ (fun hHeld => ?_)
      refine wpAnyH_take (i := 0) (v := ?_) (by simp only [List.getElem?_toArray, List.getElem?_cons_succ, List.getElem?_cons_zero]; rfl) (by kernel_rfl) (by kernel_rfl) (by kernel_rfl) (by intro _ _ _ h; exact h) (Or.inl ⟨by rfl, ?_⟩) (by assumption) ?_
      rotate_left
      · intro w hSw
        (try dsimp only at hSw)
        first | (go_simp; done) | (go_simp; with_reducible rfl) | with_reducible rfl
      simp only [Act.put, List.setIfInBounds_toArray, List.set_cons_zero, List.set_cons_succ]
      refine wpAnyH_take (i := 1) (v := ?_) (by simp only [List.getElem?_toArray, List.getElem?_cons_succ, List.getElem?_cons_zero]; rfl) (by kernel_rfl) (by kernel_rfl) (by kernel_rfl) (by intro _ _ _ h; exact h) (Or.inl ⟨by rfl, ?_⟩) (by assumption) ?_
      rotate_left
      · intro w hSw
        (try dsimp only at hSw)
        first | (go_simp; done) | (go_simp; with_reducible rfl) | with_reducible rfl
      simp only [Act.put, List.setIfInBounds_toArray, List.set_cons_zero, List.set_cons_succ]
      refine wpAnyH_take (i := 2) (v := ?_) (by simp only [List.getElem?_toArray, List.getElem?_cons_succ, List.getElem?_cons_zero]; rfl) (by kernel_rfl) (by kernel_rfl) (by kernel_rfl) (by intro _ _ _ h; exact h) (Or.inl ⟨by rfl, ?_⟩) (by assumption) ?_
      rotate_left
      · intro w hSw
        (try dsimp only at hSw)
        first | (go_simp; done) | (go_simp; with_reducible rfl) | with_reducible rfl
      simp only [Act.put, List.setIfInBounds_toArray, List.set_cons_zero, List.set_cons_succ]
      refine wpAnyH_take (i := 3) (v := ?_) (by simp only [List.getElem?_toArray, List.getElem?_cons_succ, List.getElem?_cons_zero]; rfl) (by kernel_rfl) (by kernel_rfl) (by kernel_rfl) (by intro _ _ _ h; exact h) (Or.inl ⟨by rfl, ?_⟩) (by assumption) ?_
      rotate_left
      · intro w hSw
        (try dsimp only at hSw)
        first | (go_simp; done) | (go_simp; with_reducible rfl) | with_reducible rfl
      simp only [Act.put, List.setIfInBounds_toArray, List.set_cons_zero, List.set_cons_succ]
      refine wpAnyH_take (i := 4) (v := ?_) (by simp only [List.getElem?_toArray, List.getElem?_cons_succ, List.getElem?_cons_zero]; rfl) (by kernel_rfl) (by kernel_rfl) (by kernel_rfl) (by intro _ _ _ h; exact h) (Or.inl ⟨by rfl, ?_⟩) (by assumption) ?_
      rotate_left
      · intro w hSw
        (try dsimp only at hSw)
        first | (go_simp; done) | (go_simp; with_reducible rfl) | with_reducible rfl
      simp only [Act.put, List.setIfInBounds_toArray, List.set_cons_zero, List.set_cons_succ]
      refine wpAnyH_take (i := 5) (v := ?_) (by simp only [List.getElem?_toArray, List.getElem?_cons_succ, List.getElem?_cons_zero]; rfl) (by kernel_rfl) (by kernel_rfl) (by kernel_rfl) (by intro _ _ _ h; exact h) (Or.inl ⟨by rfl, ?_⟩) (by assumption) ?_
      rotate_left
      · intro w hSw
        (try dsimp only at hSw)
        first | (go_simp; done) | (go_simp; with_reducible rfl) | with_reducible rfl
      simp only [Act.put, List.setIfInBounds_toArray, List.set_cons_zero, List.set_cons_succ]
      refine wpAnyH_take (i := 6) (v := ?_) (by simp only [List.getElem?_toArray, List.getElem?_cons_succ, List.getElem?_cons_zero]; rfl) (by kernel_rfl) (by kernel_rfl) (by kernel_rfl) (by intro _ _ _ h; exact h) (Or.inl ⟨by rfl, ?_⟩) (by assumption) ?_
      rotate_left
      · intro w hSw
        (try dsimp only at hSw)
        first | (go_simp; done) | (go_simp; with_reducible rfl) | with_reducible rfl
      simp only [Act.put, List.setIfInBounds_toArray, List.set_cons_zero, List.set_cons_succ]
      refine wpAnyH_take (i := 7) (v := ?_) (by simp only [List.getElem?_toArray, List.getElem?_cons_succ, List.getElem?_cons_zero]; rfl) (by kernel_rfl) (by kernel_rfl) (by kernel_rfl) (by intro _ _ _ h; exact h) (Or.inl ⟨by rfl, ?_⟩) (by assumption) ?_
      rotate_left
      · intro w hSw
        (try dsimp only at hSw)
        first | (go_simp; done) | (go_simp; with_reducible rfl) | with_reducible rfl
      simp only [Act.put, List.setIfInBounds_toArray, List.set_cons_zero, List.set_cons_succ]
      refine wpAnyH_take (i := 8) (v := ?_) (by simp only [List.getElem?_toArray, List.getElem?_cons_succ, List.getElem?_cons_zero]; rfl) (by kernel_rfl) (by kernel_rfl) (by kernel_rfl) (by intro _ _ _ h; exact h) (Or.inl ⟨by rfl, ?_⟩) (by assumption) ?_
      rotate_left
      · intro w hSw
        (try dsimp only at hSw)
        first | (go_simp; done) | (go_simp; with_reducible rfl) | with_reducible rfl
      simp only [Act.put, List.setIfInBounds_toArray, List.set_cons_zero, List.set_cons_succ]
      refine wpAnyH_take (i := 9) (v := ?_) (by simp only [List.getElem?_toArray, List.getElem?_cons_succ, List.getElem?_cons_zero]; rfl) (by kernel_rfl) (by kernel_rfl) (by kernel_rfl) (by intro _ _ _ h; exact h) (Or.inl ⟨by rfl, ?_⟩) (by assumption) ?_
      rotate_left
      · intro w hSw
        (try dsimp only at hSw)
        first | (go_simp; done) | (go_simp; with_reducible rfl) | with_reducible rfl
      simp only [Act.put, List.setIfInBounds_toArray, List.set_cons_zero, List.set_cons_succ]
      refine wpAnyH_take (i := 10) (v := ?_) (by simp only [List.getElem?_toArray, List.getElem?_cons_succ, List.getElem?_cons_zero]; rfl) (by kernel_rfl) (by kernel_rfl) (by kernel_rfl) (by intro _ _ _ h; exact h) (Or.inl ⟨by rfl, ?_⟩) (by assumption) ?_
      rotate_left
      · intro w hSw
        (try dsimp only at hSw)
        first | (go_simp; done) | (go_simp; with_reducible rfl) | with_reducible rfl
      simp only [Act.put, List.setIfInBounds_toArray, List.set_cons_zero, List.set_cons_succ]
      refine wpAnyH_take (i := 11) (v := ?_) (by simp only [List.getElem?_toArray, List.getElem?_cons_succ, List.getElem?_cons_zero]; rfl) (by kernel_rfl) (by kernel_rfl) (by kernel_rfl) (by intro _ _ _ h; exact h) (Or.inl ⟨by rfl, ?_⟩) (by assumption) ?_
      rotate_left
      · intro w hSw
        (try dsimp only at hSw)
        first | (go_simp; done) | (go_simp; with_reducible rfl) | with_reducible rfl
      simp only [Act.put, List.setIfInBounds_toArray, List.set_cons_zero, List.set_cons_succ]
      refine wpAnyH_take (i := 12) (v := ?_) (by simp only [List.getElem?_toArray, List.getElem?_cons_succ, List.getElem?_cons_zero]; rfl) (by kernel_rfl) (by kernel_rfl) (by kernel_rfl) (by intro _ _ _ h; exact h) (Or.inl ⟨by rfl, ?_⟩) (by assumption) ?_
      rotate_left
      · intro w hSw
        (try dsimp only at hSw)
        first | (go_simp; done) | (go_simp; with_reducible rfl) | with_reducible rfl
      simp only [Act.put, List.setIfInBounds_toArray, List.set_cons_zero, List.set_cons_succ]
      refine wpAnyH_done (by kernel_rfl) ?_ _
      go_wp2
      go_end0
      refine ⟨rfl, G', ?_, ?_, ?_⟩
      · have := HCR.out.new ((Mod.refl (fun _ => False) wr).drew)
        unfold CliV.cameC
        rw [HA.out, HN.out]
        exact this
      · rw [HA.out, HN.out]
        exact HGR.out
      · exact (HM1.out.mono (fun q _ e => .inr (.inr (by have e2 : q = p := e; rw [e2]; exact hmem.out)))).trans HMR.out.drew
end Go.Proofs.YtnhgichiedninaaGreatDoor

namespace Go.Proofs.YtnhgichiedninaaGreatDoor
set_option linter.unusedSimpArgs false
set_option linter.unusedVariables false
open Go.RowKit
theorem idx3_any (f0 f1 f2 : Fn) (a0 b0 a1 b1 a2 b2 : Array Value) (w : World) : (Instr.index 140 (.agg #[.func f0 a0 b0, .func f1 a1 b1, .func f2 a2 b2]) (.int .i64 0)).run Tryz.prog w = .ok (.func f0 a0 b0) w := by
  have hs : ∀ w, (sizeOf 139).run Tryz.prog w = .ok 1 w := fun w => by
    have := Tryz.sizeOf139
    simp [this]
  simp [Instr.index, asIntOf, run_underlying Tryz.underlying140, Result.andThen, go_sem, part, hs, run_underlying Tryz.underlying139]
end Go.Proofs.YtnhgichiedninaaGreatDoor
