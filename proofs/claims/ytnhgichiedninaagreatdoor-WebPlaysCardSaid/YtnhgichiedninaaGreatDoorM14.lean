/-
  Several texts in one, in their build order. The walks of ends, ended and Took (package web): a run that came is told. Conditions: the client lies as told. What a client has under way, whatever it lies like: plain facts on runs that do not touch. Plain Lean, no program. No condition.
-/
import Derived.Test.YtnhgichiedninaaGreatDoorM13
import Derived.Test.YtnhgichiedninaaGreatDoorM1
namespace Go.Proofs.YtnhgichiedninaaGreatDoor
set_option linter.unusedSimpArgs false
set_option linter.unusedVariables false
open Go.RowKit Go.Shelf

set_option maxRecDepth 100000 in
set_option maxHeartbeats 2000000 in
theorem cends_any (B web : Nat) (w : World) : Calls Tryz.prog 81 #[.pointer (some ⟨B, 0, none⟩), .int .i64 web] w fun e w' =>
    e = .returned (.agg #[.func (.func 118) #[] #[.pointer (some ⟨w.heap.size, 0, none⟩), .pointer (some ⟨w.heap.size + 1, 0, none⟩)], .func (.func 120) #[.pointer (some ⟨B, 0, none⟩)] #[], .func (.func 121) #[] #[.pointer (some ⟨w.heap.size, 0, none⟩)]]) ∧
      Blk w' w.heap.size #[.pointer (some ⟨B, 0, none⟩)] 27 ∧ Blk w' (w.heap.size + 1) #[.int .i64 web] 3 ∧ New w w' := by
  have hmf : ∀ (fn : Fn) (first cap : Array Value) (w : World), (Instr.makeFunc fn first cap).run Tryz.prog w = .ok (.func fn first cap) w := fun _ _ _ _ => rfl
  go_enter Tryz.func81, Tryz.ntmps81
  go_wp2
  refine name_worldZ (p := fun W => bodyPost _ _ _ _ _ W) (fun W6 hW6 => ?_)
  have B0 : Blk W6 w.heap.size #[.pointer (some ⟨B, 0, none⟩)] 27 := by rw [hW6]; first | exact ((Blk.new _ _ _).alloc _).alloc _ | exact Blk.other (by simp) (Blk.other (by simp) (Blk.other (by simp) (((Blk.new _ _ _).alloc _).alloc _)))
  have B1 : Blk W6 (w.heap.size + 1) #[.int .i64 web] 3 := by rw [hW6]; first | exact (Blk.newAt (by simp)).alloc _ | exact Blk.other (by simp) (Blk.other (by simp) (Blk.other (by simp) ((Blk.newAt (by simp)).alloc _)))
  have N6 : New w W6 := by rw [hW6]; first | exact (((Mod.refl _ _).alloc _).alloc _).alloc _ | exact Mod.set (Mod.set (Mod.set ((((Mod.refl _ _).alloc _).alloc _).alloc _) _ _ (.inr (by simp))) _ _ (.inr (by simp))) _ _ (.inr (by simp))
  have B2 : Blk W6 (w.heap.size + 2) #[.func (.func 118) #[] #[.pointer (some ⟨w.heap.size, 0, none⟩), .pointer (some ⟨w.heap.size + 1, 0, none⟩)], .func (.func 120) #[.pointer (some ⟨B, 0, none⟩)] #[], .func (.func 121) #[] #[.pointer (some ⟨w.heap.size, 0, none⟩)]] 140 := by rw [hW6]; exact Blk.newAt (by simp)
  clear hW6
  exact bodyPost_ret (results_cell_row rfl _ _ (w.heap.size + 2) _ _ (0, 0) _ rfl B2 Tryz.underlying140 rfl (by kernel_rfl)) rfl ⟨rfl, B0, B1, N6⟩
set_option maxRecDepth 100000 in
set_option maxHeartbeats 2000000 in
theorem cends1_any (B SB cap MB : Nat) (ps : List Nat) (c : CliV) (G : List (Value × Value)) (f : Nat → Option Nat) (k p web X : Nat) (s : SeedV) (w : World) (h : CliAt w B SB cap MB ps c G) (hG : GvAt G f) (hp : ps[k]? = some p) (hs : c.seeds[k]? = some s)
    (hx : w.cell? ⟨X, 0, none⟩ = some (.pointer (some ⟨B, 0, none⟩))) (hy : w.cell? ⟨X + 1, 0, none⟩ = some (.int .i64 web)) :
    Calls Tryz.prog 118 #[.pointer (some ⟨p, 0, none⟩), .pointer (some ⟨X, 0, none⟩), .pointer (some ⟨X + 1, 0, none⟩)] w fun e w' => e = .returned (.tuple #[]) ∧ ∃ G', CliAt w' B SB cap MB ps (c.cameC k s) G' ∧ GvAt G' (gaveTo f s.frm.toNat web s.cnt.toNat) ∧ Mod (CliT B MB ps) w w' := by
  have HCM := hid (ccame_any B SB cap MB ps c G f k p web s w h hG hp hs)
  have xl := World.block_lt_of_cell? _ _ hx; have yl := World.block_lt_of_cell? _ _ hy
  clear h hG hp hs
  go_enter Tryz.func118, Tryz.ntmps118
  go_wp2_with fail
  refine HCM.out.mono ?_
  rintro e w1 ⟨rfl, G', h1, h2, h3⟩
  have H1 := hid h1; have H2 := hid h2; have H3 := hid h3
  clear h1 h2 h3
  go_wp2
  go_end0
  exact ⟨rfl, G', H1.out, H2.out, H3.out⟩
def SeedV.idle (s : SeedV) : SeedV := ⟨s.frm, s.cnt, false, s.fails, s.bad, s.after, s.out⟩
/-- What Took answers, and how the client then is. -/
def CliV.tookE (c : CliV) (now : Int) (web : Int) : Int := if web < 0 ∨ (c.seeds.length : Int) ≤ web then 7 else if c.atE now ≠ 0 then c.atE now else match c.seeds[web.toNat]? with
  | some s => if s.under then 0 else 8
  | none => 7
def CliV.tookC (c : CliV) (now : Int) (web : Nat) (s : SeedV) : CliV := CliV.cameC ⟨c.seeds.set web s.idle, c.n, c.want, c.run, now⟩ web s.idle
theorem ret_pieZ {v : Value} {E k : Int} (h : E = k) : Ending.returned (.tuple #[v, .int .i64 k]) = .returned (.tuple #[v, .int .i64 E]) := by rw [h]
set_option maxRecDepth 100000 in
set_option maxHeartbeats 4000000 in
theorem cended_no (B SB cap MB : Nat) (ps : List Nat) (c : CliV) (G : List (Value × Value)) (now web how : Int) (w : World) (h : CliAt w B SB cap MB ps c G) (hno : c.tookE now web ≠ 0) :
    Calls Tryz.prog 42 #[.pointer (some ⟨B, 0, none⟩), .int .i64 now, .int .i64 web, .int .i64 how] w fun e w' => e = .returned (.tuple #[.agg #[.int .i64 0, .int .i64 0], .int .i64 (c.tookE now web)]) ∧ New w w' := by
  have HAT := hid (fun W (q : New w W) => cat_any B SB cap MB ps c G now W (h.new q))
  have hr := h.room; have hf := h.few
  unfold maxLen at hr
  have HC := hid h
  have hN0 : New w (w.alloc (.cells #[.int .i64 0, .int .i64 0] 34)) := (Mod.refl _ _).alloc _
  have N2 := hid hN0
  have R2 : Hid (Blk (w.alloc (.cells #[.int .i64 0, .int .i64 0] 34)) w.heap.size #[.int .i64 0, .int .i64 0] 34) := hid (Blk.new _ _ _)
  have c0 := h.row.cellv 0 rfl; have cl := h.row.lt
  obtain ⟨E, hE⟩ : ∃ E, E = c.tookE now web := ⟨_, rfl⟩
  rw [← hE] at hno ⊢
  unfold CliV.tookE at hE
  clear hN0
  by_cases h1 : web < 0
  · rw [if_pos (.inl h1)] at hE
    have HE := hid hE
    clear h hE hno
    go_enter Tryz.func42, Tryz.ntmps42
    go_wp2
    refine name_worldZ (p := fun W => bodyPost _ _ _ _ _ W) (fun W6 hW6 => ?_)
    have K6 : Blk W6 w.heap.size #[.int .i64 0, .int .i64 0] 34 := by
      rw [hW6]
      first | exact ((R2.out.set 0 _).set 1 _).row (by simp) | exact R2.out
    have N6 : New w W6 := by
      rw [hW6]
      first | exact Mod.set (Mod.set N2.out _ _ (.inr (by simp))) _ _ (.inr (by simp)) | exact N2.out
    have q0 := K6.cellv 0 rfl; have q1 := K6.cellv 1 rfl
    clear hW6
    exact bodyPost_ret (v := .tuple #[.agg #[.int .i64 0, .int .i64 0], .int .i64 7]) (by simp [results, Tryz.results42, go_sem, q0, q1]) rfl ⟨ret_pieZ HE.out, N6⟩
  by_cases h2 : (c.seeds.length : Int) ≤ web
  · rw [if_pos (.inr h2)] at hE
    have HE := hid hE
    clear h hE hno
    go_enter Tryz.func42, Tryz.ntmps42
    go_wp2
    refine name_worldZ (p := fun W => bodyPost _ _ _ _ _ W) (fun W6 hW6 => ?_)
    have K6 : Blk W6 w.heap.size #[.int .i64 0, .int .i64 0] 34 := by
      rw [hW6]
      first | exact ((R2.out.set 0 _).set 1 _).row (by simp) | exact R2.out
    have N6 : New w W6 := by
      rw [hW6]
      first | exact Mod.set (Mod.set N2.out _ _ (.inr (by simp))) _ _ (.inr (by simp)) | exact N2.out
    have q0 := K6.cellv 0 rfl; have q1 := K6.cellv 1 rfl
    clear hW6
    exact bodyPost_ret (v := .tuple #[.agg #[.int .i64 0, .int .i64 0], .int .i64 7]) (by simp [results, Tryz.results42, go_sem, q0, q1]) rfl ⟨ret_pieZ HE.out, N6⟩
  rw [if_neg (by omega)] at hE
  obtain ⟨A, hA⟩ : ∃ A, A = c.atE now := ⟨_, rfl⟩
  rw [← hA] at hE HAT
  by_cases h3 : A = 0
  · subst h3
    rw [if_neg (by simp)] at hE
    obtain ⟨k, rfl⟩ := Int.eq_ofNat_of_zero_le (show 0 ≤ web by omega)
    have hkl : k < c.seeds.length := by omega
    rw [Int.toNat_natCast, List.getElem?_eq_getElem hkl] at hE
    simp only at hE
    obtain ⟨p, hp, hp2, hp3⟩ := h.seed hkl
    cases hu : c.seeds[k].under with
    | true =>
      rw [hu] at hE
      exact absurd hE hno
    | false =>
      rw [hu] at hE
      have HE : Hid (E = 8) := hid hE
      have p2 : w.cell? ⟨p, 2, none⟩ = some (.bool false) := by rw [← hu]; exact hp3.cellv 2 rfl
      have pl := hp3.lt; have sl := h.slt
      clear h hE hno hA hp3 hu
      go_enter Tryz.func42, Tryz.ntmps42
      go_wp2_with (first | (go_at_call 36; refine (HAT.out _ N2.out).mono ?_; rintro e w1 ⟨rfl, rfl⟩) | fail)
      refine name_worldZ (p := fun W => bodyPost _ _ _ _ _ W) (fun W6 hW6 => ?_)
      have K6 : Blk W6 w.heap.size #[.int .i64 0, .int .i64 0] 34 := by
        rw [hW6]
        first | exact ((R2.out.set 0 _).set 1 _).row (by simp) | exact R2.out
      have N6 : New w W6 := by
        rw [hW6]
        first | exact Mod.set (Mod.set N2.out _ _ (.inr (by simp))) _ _ (.inr (by simp)) | exact N2.out
      have q0 := K6.cellv 0 rfl; have q1 := K6.cellv 1 rfl
      clear hW6
      exact bodyPost_ret (v := .tuple #[.agg #[.int .i64 0, .int .i64 0], .int .i64 8]) (by simp [results, Tryz.results42, go_sem, q0, q1]) rfl ⟨ret_pieZ HE.out, N6⟩
  · have hzI : (A != 0) = true := by rw [bne_iff_ne]; exact h3
    rw [if_pos h3] at hE
    have HE := hid hE
    clear h hE hno hA
    go_enter Tryz.func42, Tryz.ntmps42
    go_wp2_with (first | (go_at_call 36; refine (HAT.out _ N2.out).mono ?_; rintro e w1 ⟨rfl, rfl⟩) | fail)
    refine name_worldZ (p := fun W => bodyPost _ _ _ _ _ W) (fun W6 hW6 => ?_)
    have K6 : Blk W6 w.heap.size #[.int .i64 0, .int .i64 0] 34 := by
      rw [hW6]
      first | exact ((R2.out.set 0 _).set 1 _).row (by simp) | exact R2.out
    have N6 : New w W6 := by
      rw [hW6]
      first | exact Mod.set (Mod.set N2.out _ _ (.inr (by simp))) _ _ (.inr (by simp)) | exact N2.out
    have q0 := K6.cellv 0 rfl; have q1 := K6.cellv 1 rfl
    clear hW6
    exact bodyPost_ret (v := .tuple #[.agg #[.int .i64 0, .int .i64 0], .int .i64 A]) (by simp [results, Tryz.results42, go_sem, q0, q1]) rfl ⟨ret_pieZ HE.out, N6⟩
set_option maxRecDepth 100000 in
set_option maxHeartbeats 8000000 in
theorem cended_yes (B SB cap MB : Nat) (ps : List Nat) (c : CliV) (G : List (Value × Value)) (f : Nat → Option Nat) (now : Int) (k : Nat) (s : SeedV) (w : World) (h : CliAt w B SB cap MB ps c G) (hG : GvAt G f) (hs : c.seeds[k]? = some s) (hok : c.tookE now k = 0) :
    Calls Tryz.prog 42 #[.pointer (some ⟨B, 0, none⟩), .int .i64 now, .int .i64 k, .int .i64 0] w fun e w' => e = .returned (.tuple #[.agg #[.int .i64 s.frm, .int .i64 s.cnt], .int .i64 0]) ∧ ∃ G', CliAt w' B SB cap MB ps (c.tookC now k s) G' ∧ GvAt G' (gaveTo f s.frm.toNat k s.cnt.toNat) ∧ Mod (CliT B MB ps) w w' := by
  have hkl := (List.getElem?_eq_some_iff.1 hs).1
  have hA : c.atE now = 0 ∧ s.under = true := by
    unfold CliV.tookE at hok
    rw [if_neg (by omega)] at hok
    by_cases hz : c.atE now = 0
    · rw [if_neg (by simpa using hz), Int.toNat_natCast, hs] at hok
      simp only at hok
      refine ⟨hz, ?_⟩
      cases hu : s.under with
      | true => rfl
      | false => rw [hu] at hok; simp at hok
    · rw [if_pos hz] at hok
      exact absurd hok hz
  obtain ⟨ha0, hu⟩ := hA
  obtain ⟨t0, t1⟩ := at_facts ha0
  have HAT := hid (fun W (q : New w W) => ha0 ▸ cat_any B SB cap MB ps c G now W (h.new q))
  have hr := h.room; have hf := h.few; have hnn := h.nums; have hrs := h.runs s (List.mem_of_getElem? hs)
  unfold maxLen at hr
  have hpl' : k < ps.length := by rw [h.len]; exact hkl
  obtain ⟨p, hp⟩ : ∃ p, ps[k]? = some p := ⟨ps[k], List.getElem?_eq_getElem hpl'⟩
  have hP := h.each k p s hp hs
  have HC := hid h; have HG := hid hG; have HP := hid hp; have HS := hid hs; have HRS := hid hrs
  have hmem := hid (List.mem_of_getElem? hp)
  have hpB := hid (show p ≠ B from fun e => h.bp.1 (e ▸ List.mem_of_getElem? hp))
  have HBL := hid h.below
  have c0 := h.row.cellv 0 rfl; have c4 := h.row.cellv 4 rfl; have cl := h.row.lt; have cf := h.row.frz 4
  have s0 := h.ptr k p hp; have sl := h.slt
  have p2 : w.cell? ⟨p, 2, none⟩ = some (.bool true) := by rw [← hu]; exact hP.cellv 2 rfl
  have pl := hP.lt; have pf := hP.frz 2
  have HPP := hid hP
  have hne : p ≠ B := hpB.out
  have hkI : ¬ (c.seeds.length : Int) ≤ (k : Int) := by omega
  have N2 : Hid (New w (w.alloc (.cells #[.int .i64 0, .int .i64 0] 34))) := hid ((Mod.refl _ _).alloc _)
  have R2 : Hid (Blk (w.alloc (.cells #[.int .i64 0, .int .i64 0] 34)) w.heap.size #[.int .i64 0, .int .i64 0] 34) := hid (Blk.new _ _ _)
  clear h hG hs hok ha0 hrs hp hP
  go_enter Tryz.func42, Tryz.ntmps42
  go_wp2_with (first | (go_at_call 36; refine (HAT.out _ N2.out).mono ?_; rintro e w1 ⟨rfl, rfl⟩) | fail)
  refine name_worldZ (p := fun W => Calls _ _ _ W _) (fun W3 hW3 => ?_)
  have C3 : Hid (CliAt W3 B SB cap MB ps ⟨c.seeds.set k s.idle, c.n, c.want, c.run, now⟩ G) := hid (by
    rw [hW3]
    have h1 := HC.out.time (t := now) ⟨by omega, t1⟩
    have h2 := h1.put (w' := (w.setCell ⟨B, 4, none⟩ (.int .i64 now)).setCell ⟨p, 2, none⟩ (.bool false)) (s := s.idle) HP.out (((Blk.other (p := ⟨B, 4, none⟩) hne HPP.out).set 2 _).row (by simp [seedRow, SeedV.idle])) (Mod.set (S := fun q => q = p) (Mod.refl _ _) ⟨p, 2, none⟩ _ (.inl rfl)) HRS.out
    exact h2.new ((Mod.refl _ _).alloc _))
  have M3 : Hid (Mod (CliT B MB ps) w W3) := hid (by
    rw [hW3]
    exact Mod.alloc (Mod.set (S := CliT B MB ps) (Mod.set (S := CliT B MB ps) (Mod.refl _ _) ⟨B, 4, none⟩ _ (.inl (.inl rfl))) ⟨p, 2, none⟩ _ (.inl (.inr (.inr hmem.out)))) _)
  have R3 : Hid (Blk W3 w.heap.size #[.int .i64 0, .int .i64 0] 34) := hid (by rw [hW3]; exact Blk.newAt (by simp))
  clear hW3 c0 c4 cl cf s0 sl p2 pl pf
  refine (cends_any B k W3).mono ?_
  rintro e w4 ⟨rfl, x4, y4, n4⟩
  have X4 := hid (x4.cellv 0 rfl); have Y4 := hid (y4.cellv 0 rfl)
  have C4 := hid (C3.out.new n4); have M4 := hid (M3.out.trans n4.mod); have R4 := hid (New.blk n4 R3.out)
  have HKS := hid (show (c.seeds.set k s.idle)[k]? = some s.idle by rw [List.getElem?_set_self hkl])
  have HEN := hid (cends1_any B SB cap MB ps ⟨c.seeds.set k s.idle, c.n, c.want, c.run, now⟩ G f k p k W3.heap.size s.idle w4 C4.out HG.out HP.out HKS.out X4.out Y4.out)
  clear x4 y4 n4
  have hidx := idx3_any
  go_wp2_with fail
  refine HEN.out.mono ?_
  rintro e w5 ⟨rfl, G5, c5, g5, m5⟩
  have C5 := hid c5; have G5H := hid g5; have M5 := hid (M4.out.trans m5)
  have hnR : ¬ CliT B MB ps w.heap.size := fun q => by
    obtain ⟨q1, q2, q3, q4⟩ := HBL.out w.heap.size (Nat.le_refl _)
    rcases q with q | q | q
    · exact q1 q
    · exact q3 q
    · exact q4 q
  have R5 := hid (m5.blk R4.out hnR)
  have P5 : Blk w5 p (seedRow s.idle.fresh) 82 := c5.each k p s.idle.fresh HP.out (by
    show ((c.seeds.set k s.idle).set k s.idle.fresh)[k]? = _
    rw [List.getElem?_set_self (by simpa using hkl)])
  have p0 : w5.cell? ⟨p, 0, none⟩ = some (.int .i64 s.frm) := P5.cellv 0 rfl
  have p1 : w5.cell? ⟨p, 1, none⟩ = some (.int .i64 s.cnt) := P5.cellv 1 rfl
  have pl := P5.lt
  have r0 := R5.out.cellv 0 rfl; have r1 := R5.out.cellv 1 rfl; have rl := R5.out.lt; have rf0 := R5.out.frz 0; have rf1 := R5.out.frz 1
  have hpR : p ≠ w.heap.size := fun e => (HBL.out w.heap.size (Nat.le_refl _)).2.2.2 (e ▸ hmem.out)
  clear c5 g5 m5 P5 hidx
  go_wp2
  refine name_worldZ (p := fun W => bodyPost _ _ _ _ _ W) (fun W6 hW6 => ?_)
  have K6 : Blk W6 w.heap.size #[.int .i64 s.frm, .int .i64 s.cnt] 34 := by
    rw [hW6]
    exact ((R5.out.set 0 _).set 1 _).row (by simp)
  have M6 : Mod (fun q => q = w.heap.size) w5 W6 := by
    rw [hW6]
    exact Mod.set (S := fun q => q = w.heap.size) (Mod.set (S := fun q => q = w.heap.size) (Mod.refl _ _) ⟨w.heap.size, 0, none⟩ _ (.inl rfl)) ⟨w.heap.size, 1, none⟩ _ (.inl rfl)
  have q0 := K6.cellv 0 rfl; have q1 := K6.cellv 1 rfl
  clear hW6
  refine bodyPost_ret (v := .tuple #[.agg #[.int .i64 s.frm, .int .i64 s.cnt], .int .i64 0]) (by simp [results, Tryz.results42, go_sem, q0, q1]) rfl ⟨rfl, G5, ?_, G5H.out, ?_⟩
  · exact C5.out.other M6 (fun q e => HBL.out q (by have e2 : q = w.heap.size := e; omega))
  · exact M5.out.trans' M6 (fun q hq e => by have e2 : q = w.heap.size := e; omega)
set_option maxRecDepth 100000 in
set_option maxHeartbeats 2000000 in
theorem ctook_no (B SB cap MB : Nat) (ps : List Nat) (c : CliV) (G : List (Value × Value)) (now web : Int) (w : World) (h : CliAt w B SB cap MB ps c G) (hno : c.tookE now web ≠ 0) :
    Calls Tryz.prog 12 #[.pointer (some ⟨B, 0, none⟩), .int .i64 now, .int .i64 web] w fun e w' => e = .returned (.tuple #[.agg #[.int .i64 0, .int .i64 0], .int .i64 (c.tookE now web)]) ∧ New w w' := by
  have HEN := hid (cended_no B SB cap MB ps c G now web 0 _ (h.new ((Mod.refl (fun _ => False) w).alloc (.cells #[.int .i64 0, .int .i64 0] 34))) hno)
  obtain ⟨E, hE⟩ : ∃ E, E = c.tookE now web := ⟨_, rfl⟩
  rw [← hE] at HEN ⊢
  clear h hno hE
  go_enter Tryz.func12, Tryz.ntmps12
  go_wp2_with fail
  refine HEN.out.mono ?_
  rintro e w1 ⟨rfl, n1⟩
  have R1 : Hid (Blk w1 w.heap.size #[.int .i64 0, .int .i64 0] 34) := hid (New.blk n1 (Blk.new _ _ _))
  have N1 : Hid (New w w1) := hid (((Mod.refl _ w).alloc (.cells #[.int .i64 0, .int .i64 0] 34) : New w _).trans n1)
  have r0 := R1.out.cellv 0 rfl; have r1 := R1.out.cellv 1 rfl; have rl := R1.out.lt; have rf0 := R1.out.frz 0; have rf1 := R1.out.frz 1
  clear n1
  go_wp2
  refine name_worldZ (p := fun W => bodyPost _ _ _ _ _ W) (fun W6 hW6 => ?_)
  have K6 : Blk W6 w.heap.size #[.int .i64 0, .int .i64 0] 34 := by
    rw [hW6]
    exact ((R1.out.set 0 _).set 1 _).row (by simp)
  have N6 : New w W6 := by
    rw [hW6]
    exact Mod.set (Mod.set N1.out _ _ (.inr (by simp))) _ _ (.inr (by simp))
  have q0 := K6.cellv 0 rfl; have q1 := K6.cellv 1 rfl
  clear hW6
  exact bodyPost_ret (v := .tuple #[.agg #[.int .i64 0, .int .i64 0], .int .i64 E]) (by simp [results, Tryz.results12, go_sem, q0, q1]) rfl ⟨rfl, N6⟩
set_option maxRecDepth 100000 in
set_option maxHeartbeats 2000000 in
theorem ctook_yes (B SB cap MB : Nat) (ps : List Nat) (c : CliV) (G : List (Value × Value)) (f : Nat → Option Nat) (now : Int) (k : Nat) (s : SeedV) (w : World) (h : CliAt w B SB cap MB ps c G) (hG : GvAt G f) (hs : c.seeds[k]? = some s) (hok : c.tookE now k = 0) :
    Calls Tryz.prog 12 #[.pointer (some ⟨B, 0, none⟩), .int .i64 now, .int .i64 k] w fun e w' => e = .returned (.tuple #[.agg #[.int .i64 s.frm, .int .i64 s.cnt], .int .i64 0]) ∧ ∃ G', CliAt w' B SB cap MB ps (c.tookC now k s) G' ∧ GvAt G' (gaveTo f s.frm.toNat k s.cnt.toNat) ∧ Mod (CliT B MB ps) w w' := by
  have HEN := hid (cended_yes B SB cap MB ps c G f now k s _ (h.new ((Mod.refl (fun _ => False) w).alloc (.cells #[.int .i64 0, .int .i64 0] 34))) hG hs hok)
  have HBL := hid h.below
  clear h hG hs hok
  go_enter Tryz.func12, Tryz.ntmps12
  go_wp2_with fail
  refine HEN.out.mono ?_
  rintro e w1 ⟨rfl, G5, c5, g5, m5⟩
  have hnR : ¬ CliT B MB ps w.heap.size := fun q => by
    obtain ⟨q1, q2, q3, q4⟩ := HBL.out w.heap.size (Nat.le_refl _)
    rcases q with q | q | q
    · exact q1 q
    · exact q3 q
    · exact q4 q
  have R1 : Hid (Blk w1 w.heap.size #[.int .i64 0, .int .i64 0] 34) := hid (m5.blk (Blk.new _ _ _) hnR)
  have M1 : Hid (Mod (CliT B MB ps) w w1) := hid (((Mod.refl _ w).alloc (.cells #[.int .i64 0, .int .i64 0] 34)).trans m5)
  have C5 := hid c5; have G5H := hid g5
  have r0 := R1.out.cellv 0 rfl; have r1 := R1.out.cellv 1 rfl; have rl := R1.out.lt; have rf0 := R1.out.frz 0; have rf1 := R1.out.frz 1
  clear c5 g5 m5
  go_wp2
  refine name_worldZ (p := fun W => bodyPost _ _ _ _ _ W) (fun W6 hW6 => ?_)
  have K6 : Blk W6 w.heap.size #[.int .i64 s.frm, .int .i64 s.cnt] 34 := by
    rw [hW6]
    exact ((R1.out.set 0 _).set 1 _).row (by simp)
  have M6 : Mod (fun q => q = w.heap.size) w1 W6 := by
    rw [hW6]
    exact Mod.set (S := fun q => q = w.heap.size) (Mod.set (S := fun q => q = w.heap.size) (Mod.refl _ _) ⟨w.heap.size, 0, none⟩ _ (.inl rfl)) ⟨w.heap.size, 1, none⟩ _ (.inl rfl)
  have q0 := K6.cellv 0 rfl; have q1 := K6.cellv 1 rfl
  clear hW6
  refine bodyPost_ret (v := .tuple #[.agg #[.int .i64 s.frm, .int .i64 s.cnt], .int .i64 0]) (by simp [results, Tryz.results12, go_sem, q0, q1]) rfl ⟨rfl, G5, ?_, G5H.out, ?_⟩
  · exact C5.out.other M6 (fun q e => HBL.out q (by have e2 : q = w.heap.size := e; omega))
  · exact M1.out.trans' M6 (fun q hq e => by have e2 : q = w.heap.size := e; omega)
end Go.Proofs.YtnhgichiedninaaGreatDoor

namespace Go.Proofs.YtnhgichiedninaaGreatDoor
set_option linter.unusedSimpArgs false
set_option linter.unusedVariables false

/-- The runs under way, in the seeds' order. -/
def underOf (S : List SeedV) : List (Int × Int) := (S.filter (·.under)).map fun s => (s.frm, s.cnt)
theorem under_next {S : List SeedV} {k : Nat} (h : k < S.length) : underOf (S.take (k + 1)) = underOf (S.take k) ++ (if S[k].under then [(S[k].frm, S[k].cnt)] else []) := by
  unfold underOf
  rw [List.take_succ_eq_append_getElem h, List.filter_append, List.map_append]
  congr 1
  cases hu : S[k].under <;> simp [hu]
end Go.Proofs.YtnhgichiedninaaGreatDoor
