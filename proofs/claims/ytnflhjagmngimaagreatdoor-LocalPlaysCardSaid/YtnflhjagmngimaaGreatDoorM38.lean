/-
  Several texts in one, in their build order. The walk of a crier's Hear (package local). Conditions: the crier lies as told; the library's variables are laid.
-/
import Derived.Test.YtnflhjagmngimaaGreatDoorM27
import Derived.Test.YtnflhjagmngimaaGreatDoorM12
namespace Go.Proofs.YtnflhjagmngimaaGreatDoor
set_option linter.unusedSimpArgs false
set_option linter.unusedVariables false
open Go.RowKit Go.Shelf

set_option maxRecDepth 100000 in
set_option maxHeartbeats 8000000 in
theorem hear_no (B M H : Nat) (c : CrV) (t : Int) (x : AdrV) (s : ByteArray) (w : World) (h : CrAt w B M H c) (hv : VarsL w) (hs : x.ip.size ≤ maxLen) (hz : s.size ≤ maxLen) (ht : 0 ≤ c.now) (hno : c.hearE t x s ≠ 0) :
    Calls Tryz.prog 14 #[.pointer (some ⟨B, 0, none⟩), .int .i64 t, .agg #[.int .i64 x.fam, .string x.ip, .int .i64 x.port], .string s] w fun e w' => e = .returned (.tuple #[.slice none 0 0, adr0, .int .i64 (c.hearE t x s)]) ∧ New w w' := by
  obtain ⟨fam, ip, port⟩ := x
  simp only at hs ⊢
  unfold CrV.hearE at hno ⊢
  have HC := hid (fun W (n : New w W) => h.new n)
  have HV := hid (fun W (n : New w W) => hv.new n)
  unfold maxLen at hz
  by_cases ga : adrOk ⟨fam, ip, port⟩ = false
  · rw [if_pos ga]
    clear hno
    have HAV := hid (fun W => adrValid_any ⟨fam, ip, port⟩ W hs)
    simp only [ga] at HAV
    go_enter Tryz.func14, Tryz.ntmps14
    go_wp2_with fail
    refine (HAV.out _).mono ?_
    rintro e w1 ⟨rfl, n1⟩
    have B6 := hid (New.blk n1 ((Blk.new w #[.int .i64 fam, .string ip, .int .i64 port] 40).alloc (.cells #[.int .i64 0, .string ⟨#[]⟩, .int .i64 0] 40)))
    have B9 := hid (New.blk n1 (Blk.newAt (w := w.alloc (.cells #[.int .i64 fam, .string ip, .int .i64 port] 40)) (b := w.heap.size + 1) (cs := #[.int .i64 0, .string ⟨#[]⟩, .int .i64 0]) (t := 40) (by simp)))
    have N1 := hid ((((Mod.refl (fun _ => False) w).alloc _).alloc _).trans n1)
    clear n1
    have z0 := B9.out.cellv 0 rfl; have z1 := B9.out.cellv 1 rfl; have z2 := B9.out.cellv 2 rfl; have zl := B9.out.lt
    have y0 := B9.out.frz 0; have y1 := B9.out.frz 1; have y2 := B9.out.frz 2
    go_wp2_with fail
    refine name_worldC (p := fun W => bodyPost _ _ _ _ _ W) (fun W6 hW6 => ?_)
    have G9 : Blk W6 (w.heap.size + 1) #[.int .i64 0, .string ⟨#[]⟩, .int .i64 0] 40 := by
      rw [hW6]
      exact ((((B9.out).set 0 _).set 1 _).set 2 _).row (by simp)
    have N6 : New w W6 := by
      rw [hW6]
      repeat (with_reducible refine Mod.drew ?_)
      refine Mod.set (S := fun _ => False) ?_ ⟨w.heap.size + 1, 2, none⟩ _ (.inr (by simp))
      refine Mod.set (S := fun _ => False) ?_ ⟨w.heap.size + 1, 1, none⟩ _ (.inr (by simp))
      refine Mod.set (S := fun _ => False) ?_ ⟨w.heap.size + 1, 0, none⟩ _ (.inr (by simp))
      exact N1.out
    have g0 := G9.cellv 0 rfl; have g1 := G9.cellv 1 rfl; have g2 := G9.cellv 2 rfl
    refine bodyPost_ret (v := .tuple #[.slice none 0 0, adr0, .int .i64 1]) ?_ rfl ⟨rfl, N6⟩
    simp [results, Tryz.results14, go_sem, adr0, g0, g1, g2]
  have ga : adrOk ⟨fam, ip, port⟩ = true := by simpa using ga
  rw [if_neg (by rw [ga]; decide)] at hno ⊢
  by_cases gl : 1400 < s.size
  · rw [if_pos gl]
    have e1 : (1400 : Int) < (s.size : Int) := by omega
    clear hno gl
    have HAV := hid (fun W => adrValid_any ⟨fam, ip, port⟩ W hs)
    simp only [ga] at HAV
    go_enter Tryz.func14, Tryz.ntmps14
    go_wp2_with fail
    refine (HAV.out _).mono ?_
    rintro e w1 ⟨rfl, n1⟩
    have B6 := hid (New.blk n1 ((Blk.new w #[.int .i64 fam, .string ip, .int .i64 port] 40).alloc (.cells #[.int .i64 0, .string ⟨#[]⟩, .int .i64 0] 40)))
    have B9 := hid (New.blk n1 (Blk.newAt (w := w.alloc (.cells #[.int .i64 fam, .string ip, .int .i64 port] 40)) (b := w.heap.size + 1) (cs := #[.int .i64 0, .string ⟨#[]⟩, .int .i64 0]) (t := 40) (by simp)))
    have N1 := hid ((((Mod.refl (fun _ => False) w).alloc _).alloc _).trans n1)
    clear n1
    have z0 := B9.out.cellv 0 rfl; have z1 := B9.out.cellv 1 rfl; have z2 := B9.out.cellv 2 rfl; have zl := B9.out.lt
    have y0 := B9.out.frz 0; have y1 := B9.out.frz 1; have y2 := B9.out.frz 2
    go_wp2_with fail
    refine name_worldC (p := fun W => bodyPost _ _ _ _ _ W) (fun W6 hW6 => ?_)
    have G9 : Blk W6 (w.heap.size + 1) #[.int .i64 0, .string ⟨#[]⟩, .int .i64 0] 40 := by
      rw [hW6]
      exact ((((B9.out).set 0 _).set 1 _).set 2 _).row (by simp)
    have N6 : New w W6 := by
      rw [hW6]
      repeat (with_reducible refine Mod.drew ?_)
      refine Mod.set (S := fun _ => False) ?_ ⟨w.heap.size + 1, 2, none⟩ _ (.inr (by simp))
      refine Mod.set (S := fun _ => False) ?_ ⟨w.heap.size + 1, 1, none⟩ _ (.inr (by simp))
      refine Mod.set (S := fun _ => False) ?_ ⟨w.heap.size + 1, 0, none⟩ _ (.inr (by simp))
      exact N1.out
    have g0 := G9.cellv 0 rfl; have g1 := G9.cellv 1 rfl; have g2 := G9.cellv 2 rfl
    refine bodyPost_ret (v := .tuple #[.slice none 0 0, adr0, .int .i64 3]) ?_ rfl ⟨rfl, N6⟩
    simp [results, Tryz.results14, go_sem, adr0, g0, g1, g2]
  rw [if_neg gl] at hno ⊢
  have e1 : ¬ (1400 : Int) < (s.size : Int) := by omega
  by_cases gt : c.atE t ≠ 0
  · rw [if_pos gt]
    have h7 : c.atE t = 7 := by
      unfold CrV.atE at gt ⊢
      split at gt
      · rename_i q; rw [if_pos q]
      · exact absurd rfl gt
    have HAT := hid (fun W (n : New w W) => crAt_any B M H c t W (HC.out W n))
    rw [h7] at HAT
    clear hno gt h7
    have HAV := hid (fun W => adrValid_any ⟨fam, ip, port⟩ W hs)
    simp only [ga] at HAV
    go_enter Tryz.func14, Tryz.ntmps14
    go_wp2_with fail
    refine (HAV.out _).mono ?_
    rintro e w1 ⟨rfl, n1⟩
    have B6 := hid (New.blk n1 ((Blk.new w #[.int .i64 fam, .string ip, .int .i64 port] 40).alloc (.cells #[.int .i64 0, .string ⟨#[]⟩, .int .i64 0] 40)))
    have B9 := hid (New.blk n1 (Blk.newAt (w := w.alloc (.cells #[.int .i64 fam, .string ip, .int .i64 port] 40)) (b := w.heap.size + 1) (cs := #[.int .i64 0, .string ⟨#[]⟩, .int .i64 0]) (t := 40) (by simp)))
    have N1 := hid ((((Mod.refl (fun _ => False) w).alloc _).alloc _).trans n1)
    clear n1
    have z0 := B9.out.cellv 0 rfl; have z1 := B9.out.cellv 1 rfl; have z2 := B9.out.cellv 2 rfl; have zl := B9.out.lt
    have y0 := B9.out.frz 0; have y1 := B9.out.frz 1; have y2 := B9.out.frz 2
    go_wp2_with fail
    refine (HAT.out _ N1.out).mono ?_
    rintro e w2 ⟨rfl, rfl⟩
    go_wp2_with fail
    refine name_worldC (p := fun W => bodyPost _ _ _ _ _ W) (fun W6 hW6 => ?_)
    have G9 : Blk W6 (w.heap.size + 1) #[.int .i64 0, .string ⟨#[]⟩, .int .i64 0] 40 := by
      rw [hW6]
      exact ((((B9.out).set 0 _).set 1 _).set 2 _).row (by simp)
    have N6 : New w W6 := by
      rw [hW6]
      repeat (with_reducible refine Mod.drew ?_)
      refine Mod.set (S := fun _ => False) ?_ ⟨w.heap.size + 1, 2, none⟩ _ (.inr (by simp))
      refine Mod.set (S := fun _ => False) ?_ ⟨w.heap.size + 1, 1, none⟩ _ (.inr (by simp))
      refine Mod.set (S := fun _ => False) ?_ ⟨w.heap.size + 1, 0, none⟩ _ (.inr (by simp))
      exact N1.out
    have g0 := G9.cellv 0 rfl; have g1 := G9.cellv 1 rfl; have g2 := G9.cellv 2 rfl
    refine bodyPost_ret (v := .tuple #[.slice none 0 0, adr0, .int .i64 7]) ?_ rfl ⟨rfl, N6⟩
    simp [results, Tryz.results14, go_sem, adr0, g0, g1, g2]
  have gt : c.atE t = 0 := by omega
  rw [if_neg (by rw [gt]; decide)] at hno ⊢
  have HAT := hid (fun W (n : New w W) => crAt_any B M H c t W (HC.out W n))
  rw [gt] at HAT
  have HPS := hid (fun W (n : New w W) => Parse_any s W (HV.out W n) (by unfold maxLen; omega))
  obtain ⟨t0, t1⟩ := at_factsC gt
  obtain ⟨m, hm⟩ : ∃ m, m = psM s := ⟨_, rfl⟩
  obtain ⟨ln, hln⟩ : ∃ ln, ln = psN s := ⟨_, rfl⟩
  obtain ⟨E, hE⟩ : ∃ E, E = psE s := ⟨_, rfl⟩
  rw [← hm, ← hln, ← hE] at HPS
  rw [← hm, ← hE] at hno
  rw [← hm, ← hE]
  clear hm hln hE gt
  by_cases ge : E ≠ 0
  · rw [if_pos ge]
    have e2 : (E == 0) = false := by rw [beq_eq_false_iff_ne]; exact ge
    have e3 : (E != 0) = true := by rw [bne, e2]; rfl
    clear hno ge
    have HAV := hid (fun W => adrValid_any ⟨fam, ip, port⟩ W hs)
    simp only [ga] at HAV
    go_enter Tryz.func14, Tryz.ntmps14
    go_wp2_with fail
    refine (HAV.out _).mono ?_
    rintro e w1 ⟨rfl, n1⟩
    have B6 := hid (New.blk n1 ((Blk.new w #[.int .i64 fam, .string ip, .int .i64 port] 40).alloc (.cells #[.int .i64 0, .string ⟨#[]⟩, .int .i64 0] 40)))
    have B9 := hid (New.blk n1 (Blk.newAt (w := w.alloc (.cells #[.int .i64 fam, .string ip, .int .i64 port] 40)) (b := w.heap.size + 1) (cs := #[.int .i64 0, .string ⟨#[]⟩, .int .i64 0]) (t := 40) (by simp)))
    have N1 := hid ((((Mod.refl (fun _ => False) w).alloc _).alloc _).trans n1)
    clear n1
    have z0 := B9.out.cellv 0 rfl; have z1 := B9.out.cellv 1 rfl; have z2 := B9.out.cellv 2 rfl; have zl := B9.out.lt
    have y0 := B9.out.frz 0; have y1 := B9.out.frz 1; have y2 := B9.out.frz 2
    go_wp2_with fail
    refine (HAT.out _ N1.out).mono ?_
    rintro e w2 ⟨rfl, rfl⟩
    go_wp2_with fail
    refine (HPS.out _ N1.out).mono ?_
    rintro e w3 ⟨a3, c3, rfl, s3, n3⟩
    have N3 := hid (N1.out.trans n3)
    have S3 := hid s3
    have B9b := hid ((New.blk n3 B9.out).alloc (.cells #[.int .i64 m.port, .slice a3 m.names.length c3, .string m.cookie] 34))
    have B6b := hid ((New.blk n3 B6.out).alloc (.cells #[.int .i64 m.port, .slice a3 m.names.length c3, .string m.cookie] 34))
    clear s3 n3 z0 z1 z2 zl y0 y1 y2
    have z0 := B9b.out.cellv 0 rfl; have z1 := B9b.out.cellv 1 rfl; have z2 := B9b.out.cellv 2 rfl; have zl := B9b.out.lt
    have y0 := B9b.out.frz 0; have y1 := B9b.out.frz 1; have y2 := B9b.out.frz 2
    go_wp2_with fail
    refine name_worldC (p := fun W => bodyPost _ _ _ _ _ W) (fun W6 hW6 => ?_)
    have G9 : Blk W6 (w.heap.size + 1) #[.int .i64 0, .string ⟨#[]⟩, .int .i64 0] 40 := by
      rw [hW6]
      exact ((((B9b.out).set 0 _).set 1 _).set 2 _).row (by simp)
    have N6 : New w W6 := by
      rw [hW6]
      repeat (with_reducible refine Mod.drew ?_)
      refine Mod.set (S := fun _ => False) ?_ ⟨w.heap.size + 1, 2, none⟩ _ (.inr (by simp))
      refine Mod.set (S := fun _ => False) ?_ ⟨w.heap.size + 1, 1, none⟩ _ (.inr (by simp))
      refine Mod.set (S := fun _ => False) ?_ ⟨w.heap.size + 1, 0, none⟩ _ (.inr (by simp))
      exact N3.out.alloc _
    have g0 := G9.cellv 0 rfl; have g1 := G9.cellv 1 rfl; have g2 := G9.cellv 2 rfl
    refine bodyPost_ret (v := .tuple #[.slice none 0 0, adr0, .int .i64 E]) ?_ rfl ⟨rfl, N6⟩
    simp [results, Tryz.results14, go_sem, adr0, g0, g1, g2]
  have ge : E = 0 := by omega
  subst ge
  rw [if_neg (by decide)] at hno ⊢
  by_cases gk : m.cookie.data = c.cookie.data
  · rw [if_pos gk]
    have hck := hid (ba_eq gk)
    have hbb : (c.cookie.toList == c.cookie.toList) = true := by rw [beq_iff_eq]
    clear hno gk
    have HAV := hid (fun W => adrValid_any ⟨fam, ip, port⟩ W hs)
    simp only [ga] at HAV
    go_enter Tryz.func14, Tryz.ntmps14
    go_wp2_with fail
    refine (HAV.out _).mono ?_
    rintro e w1 ⟨rfl, n1⟩
    have B6 := hid (New.blk n1 ((Blk.new w #[.int .i64 fam, .string ip, .int .i64 port] 40).alloc (.cells #[.int .i64 0, .string ⟨#[]⟩, .int .i64 0] 40)))
    have B9 := hid (New.blk n1 (Blk.newAt (w := w.alloc (.cells #[.int .i64 fam, .string ip, .int .i64 port] 40)) (b := w.heap.size + 1) (cs := #[.int .i64 0, .string ⟨#[]⟩, .int .i64 0]) (t := 40) (by simp)))
    have N1 := hid ((((Mod.refl (fun _ => False) w).alloc _).alloc _).trans n1)
    clear n1
    have z0 := B9.out.cellv 0 rfl; have z1 := B9.out.cellv 1 rfl; have z2 := B9.out.cellv 2 rfl; have zl := B9.out.lt
    have y0 := B9.out.frz 0; have y1 := B9.out.frz 1; have y2 := B9.out.frz 2
    go_wp2_with fail
    refine (HAT.out _ N1.out).mono ?_
    rintro e w2 ⟨rfl, rfl⟩
    go_wp2_with fail
    refine (HPS.out _ N1.out).mono ?_
    rintro e w3 ⟨a3, c3, rfl, s3, n3⟩
    have N3 := hid (N1.out.trans n3)
    have S3 := hid s3
    have B9b := hid ((New.blk n3 B9.out).alloc (.cells #[.int .i64 m.port, .slice a3 m.names.length c3, .string m.cookie] 34))
    have B6b := hid ((New.blk n3 B6.out).alloc (.cells #[.int .i64 m.port, .slice a3 m.names.length c3, .string m.cookie] 34))
    clear s3 n3 z0 z1 z2 zl y0 y1 y2
    have z0 := B9b.out.cellv 0 rfl; have z1 := B9b.out.cellv 1 rfl; have z2 := B9b.out.cellv 2 rfl; have zl := B9b.out.lt
    have y0 := B9b.out.frz 0; have y1 := B9b.out.frz 1; have y2 := B9b.out.frz 2
    go_wp2_with fail
    refine name_worldC (p := fun W => Code.wp _ _ _ _ W) (fun W4 hW4 => ?_)
    have B12 : Hid (Blk W4 w3.heap.size #[.int .i64 m.port, .slice a3 m.names.length c3, .string m.cookie] 34) := hid (by rw [hW4]; exact Blk.new w3 _ _)
    have B9c : Hid (Blk W4 (w.heap.size + 1) #[.int .i64 0, .string ⟨#[]⟩, .int .i64 0] 40) := hid (by rw [hW4]; exact B9b.out)
    have B6c : Hid (Blk W4 w.heap.size #[.int .i64 fam, .string ip, .int .i64 port] 40) := hid (by rw [hW4]; exact B6b.out)
    have N4 : Hid (New w W4) := hid (by rw [hW4]; exact N3.out.alloc _)
    have S4 : Hid (StrsAt W4 a3 c3 m.names) := hid (by rw [hW4]; exact S3.out.new ((Mod.refl _ _).alloc _))
    clear hW4 z0 z1 z2 zl y0 y1 y2
    have z0 := B9c.out.cellv 0 rfl; have z1 := B9c.out.cellv 1 rfl; have z2 := B9c.out.cellv 2 rfl; have zl := B9c.out.lt
    have y0 := B9c.out.frz 0; have y1 := B9c.out.frz 1; have y2 := B9c.out.frz 2
    have d2 : W4.cell? ⟨w3.heap.size, 2, none⟩ = some (.string m.cookie) := B12.out.cellv 2 rfl
    have k1 : W4.cell? ⟨B, 1, none⟩ = some (.string c.cookie) := (HC.out W4 N4.out).row.cellv 1 rfl
    rw [hck.out] at d2
    refine wp_region_held_drew (S := (fun w' => w'.cell? ⟨w3.heap.size, 2, none⟩ = some (.string c.cookie) ∧ w'.cell? ⟨B, 1, none⟩ = some (.string c.cookie))) (by kernel_rfl) ⟨d2, k1⟩ (fun hHeld => ?_)
    refine tk (v := ?_) 0 ?_ ?_
    rotate_left
    · intro w hSw
      (try dsimp only at hSw)
      first | (go_simp; done) | (go_simp; with_reducible rfl) | with_reducible rfl
    simp only [Act.put, List.setIfInBounds_toArray, List.set_cons_zero, List.set_cons_succ]
    refine tk (v := ?_) 1 ?_ ?_
    rotate_left
    · intro w hSw
      (try dsimp only at hSw)
      first | (go_simp; done) | (go_simp; with_reducible rfl) | with_reducible rfl
    simp only [Act.put, List.setIfInBounds_toArray, List.set_cons_zero, List.set_cons_succ]
    refine tk (v := ?_) 2 ?_ ?_
    rotate_left
    · intro w hSw
      (try dsimp only at hSw)
      first | (go_simp; done) | (go_simp; with_reducible rfl) | with_reducible rfl
    simp only [Act.put, List.setIfInBounds_toArray, List.set_cons_zero, List.set_cons_succ]
    refine tk (v := ?_) 3 ?_ ?_
    rotate_left
    · intro w hSw
      (try dsimp only at hSw)
      first | (go_simp; done) | (go_simp; with_reducible rfl) | with_reducible rfl
    simp only [Act.put, List.setIfInBounds_toArray, List.set_cons_zero, List.set_cons_succ]
    refine tk (v := ?_) 4 ?_ ?_
    rotate_left
    · intro w hSw
      (try dsimp only at hSw)
      first | (go_simp; done) | (go_simp; with_reducible rfl) | with_reducible rfl
    simp only [Act.put, List.setIfInBounds_toArray, List.set_cons_zero, List.set_cons_succ]
    refine tk (v := ?_) 5 ?_ ?_
    rotate_left
    · intro w hSw
      (try dsimp only at hSw)
      first | (go_simp; done) | (go_simp; with_reducible rfl) | with_reducible rfl
    simp only [Act.put, List.setIfInBounds_toArray, List.set_cons_zero, List.set_cons_succ]
    refine tk (v := ?_) 6 ?_ ?_
    rotate_left
    · intro w hSw
      (try dsimp only at hSw)
      first | (go_simp; done) | (go_simp; with_reducible rfl) | with_reducible rfl
    simp only [Act.put, List.setIfInBounds_toArray, List.set_cons_zero, List.set_cons_succ]
    refine tk (v := ?_) 7 ?_ ?_
    rotate_left
    · intro w hSw
      (try dsimp only at hSw)
      first | (go_simp; done) | (go_simp; with_reducible rfl) | with_reducible rfl
    simp only [Act.put, List.setIfInBounds_toArray, List.set_cons_zero, List.set_cons_succ]
    refine wpAnyH_done (by kernel_rfl) ?_ _
    go_wp2_with fail
    refine name_worldC (p := fun W => bodyPost _ _ _ _ _ W) (fun W6 hW6 => ?_)
    have G9 : Blk W6 (w.heap.size + 1) #[.int .i64 0, .string ⟨#[]⟩, .int .i64 0] 40 := by
      rw [hW6]
      exact (((((B9c.out)).set 0 _).set 1 _).set 2 _).row (by simp)
    have N6 : New w W6 := by
      rw [hW6]
      repeat (with_reducible refine Mod.drew ?_)
      refine Mod.set (S := fun _ => False) ?_ ⟨w.heap.size + 1, 2, none⟩ _ (.inr (by simp))
      refine Mod.set (S := fun _ => False) ?_ ⟨w.heap.size + 1, 1, none⟩ _ (.inr (by simp))
      refine Mod.set (S := fun _ => False) ?_ ⟨w.heap.size + 1, 0, none⟩ _ (.inr (by simp))
      exact N4.out
    have g0 := G9.cellv 0 rfl; have g1 := G9.cellv 1 rfl; have g2 := G9.cellv 2 rfl
    refine bodyPost_ret (v := .tuple #[.slice none 0 0, adr0, .int .i64 9]) ?_ rfl ⟨rfl, N6⟩
    simp [results, Tryz.results14, go_sem, adr0, g0, g1, g2]
  rw [if_neg gk] at hno ⊢
  have hk1 : (m.cookie.toList == c.cookie.toList) = false := by
    rw [beq_eq_false_iff_ne, ByteArray.toList_eq, ByteArray.toList_eq]
    intro q
    exact gk (by cases hm : m.cookie.data; cases hc : c.cookie.data; rw [hm, hc] at q; simp at q; rw [q])
  clear gk
  by_cases gf : t / 60000 = c.min ∧ c.heard ip = 20
  · rw [if_pos gf]
    obtain ⟨gm, gh⟩ := gf
    have hq : t.tdiv 60000 = c.min := by rw [Int.tdiv_eq_ediv_of_nonneg (by omega)]; exact gm
    have hqw : IntKind.i64.wrap c.min = c.min := by rw [IntKind.wrap_i64]; omega
    have gm2 := hid gm
    clear gm
    have HAV := hid (fun W => adrValid_any ⟨fam, ip, port⟩ W hs)
    simp only [ga] at HAV
    go_enter Tryz.func14, Tryz.ntmps14
    go_wp2_with fail
    refine (HAV.out _).mono ?_
    rintro e w1 ⟨rfl, n1⟩
    have B6 := hid (New.blk n1 ((Blk.new w #[.int .i64 fam, .string ip, .int .i64 port] 40).alloc (.cells #[.int .i64 0, .string ⟨#[]⟩, .int .i64 0] 40)))
    have B9 := hid (New.blk n1 (Blk.newAt (w := w.alloc (.cells #[.int .i64 fam, .string ip, .int .i64 port] 40)) (b := w.heap.size + 1) (cs := #[.int .i64 0, .string ⟨#[]⟩, .int .i64 0]) (t := 40) (by simp)))
    have N1 := hid ((((Mod.refl (fun _ => False) w).alloc _).alloc _).trans n1)
    clear n1
    have z0 := B9.out.cellv 0 rfl; have z1 := B9.out.cellv 1 rfl; have z2 := B9.out.cellv 2 rfl; have zl := B9.out.lt
    have y0 := B9.out.frz 0; have y1 := B9.out.frz 1; have y2 := B9.out.frz 2
    go_wp2_with fail
    refine (HAT.out _ N1.out).mono ?_
    rintro e w2 ⟨rfl, rfl⟩
    go_wp2_with fail
    refine (HPS.out _ N1.out).mono ?_
    rintro e w3 ⟨a3, c3, rfl, s3, n3⟩
    have N3 := hid (N1.out.trans n3)
    have S3 := hid s3
    have B9b := hid ((New.blk n3 B9.out).alloc (.cells #[.int .i64 m.port, .slice a3 m.names.length c3, .string m.cookie] 34))
    have B6b := hid ((New.blk n3 B6.out).alloc (.cells #[.int .i64 m.port, .slice a3 m.names.length c3, .string m.cookie] 34))
    clear s3 n3 z0 z1 z2 zl y0 y1 y2
    have z0 := B9b.out.cellv 0 rfl; have z1 := B9b.out.cellv 1 rfl; have z2 := B9b.out.cellv 2 rfl; have zl := B9b.out.lt
    have y0 := B9b.out.frz 0; have y1 := B9b.out.frz 1; have y2 := B9b.out.frz 2
    go_wp2_with fail
    refine name_worldC (p := fun W => Code.wp _ _ _ _ W) (fun W4 hW4 => ?_)
    have B12 : Hid (Blk W4 w3.heap.size #[.int .i64 m.port, .slice a3 m.names.length c3, .string m.cookie] 34) := hid (by rw [hW4]; exact Blk.new w3 _ _)
    have B9c : Hid (Blk W4 (w.heap.size + 1) #[.int .i64 0, .string ⟨#[]⟩, .int .i64 0] 40) := hid (by rw [hW4]; exact B9b.out)
    have B6c : Hid (Blk W4 w.heap.size #[.int .i64 fam, .string ip, .int .i64 port] 40) := hid (by rw [hW4]; exact B6b.out)
    have N4 : Hid (New w W4) := hid (by rw [hW4]; exact N3.out.alloc _)
    have S4 : Hid (StrsAt W4 a3 c3 m.names) := hid (by rw [hW4]; exact S3.out.new ((Mod.refl _ _).alloc _))
    clear hW4 z0 z1 z2 zl y0 y1 y2
    have z0 := B9c.out.cellv 0 rfl; have z1 := B9c.out.cellv 1 rfl; have z2 := B9c.out.cellv 2 rfl; have zl := B9c.out.lt
    have y0 := B9c.out.frz 0; have y1 := B9c.out.frz 1; have y2 := B9c.out.frz 2
    have d2 : W4.cell? ⟨w3.heap.size, 2, none⟩ = some (.string m.cookie) := B12.out.cellv 2 rfl
    have k1 : W4.cell? ⟨B, 1, none⟩ = some (.string c.cookie) := (HC.out W4 N4.out).row.cellv 1 rfl
    refine wp_region_held_drew (S := (fun w' => w'.cell? ⟨w3.heap.size, 2, none⟩ = some (.string m.cookie) ∧ w'.cell? ⟨B, 1, none⟩ = some (.string c.cookie))) (by kernel_rfl) ⟨d2, k1⟩ (fun hHeld => ?_)
    refine tk (v := ?_) 0 ?_ ?_
    rotate_left
    · intro w hSw
      (try dsimp only at hSw)
      first | (go_simp; done) | (go_simp; with_reducible rfl) | with_reducible rfl
    simp only [Act.put, List.setIfInBounds_toArray, List.set_cons_zero, List.set_cons_succ]
    refine tk (v := ?_) 1 ?_ ?_
    rotate_left
    · intro w hSw
      (try dsimp only at hSw)
      first | (go_simp; done) | (go_simp; with_reducible rfl) | with_reducible rfl
    simp only [Act.put, List.setIfInBounds_toArray, List.set_cons_zero, List.set_cons_succ]
    refine tk (v := ?_) 2 ?_ ?_
    rotate_left
    · intro w hSw
      (try dsimp only at hSw)
      first | (go_simp; done) | (go_simp; with_reducible rfl) | with_reducible rfl
    simp only [Act.put, List.setIfInBounds_toArray, List.set_cons_zero, List.set_cons_succ]
    refine tk (v := ?_) 3 ?_ ?_
    rotate_left
    · intro w hSw
      (try dsimp only at hSw)
      first | (go_simp; done) | (go_simp; with_reducible rfl) | with_reducible rfl
    simp only [Act.put, List.setIfInBounds_toArray, List.set_cons_zero, List.set_cons_succ]
    refine tk (v := ?_) 4 ?_ ?_
    rotate_left
    · intro w hSw
      (try dsimp only at hSw)
      first | (go_simp; done) | (go_simp; with_reducible rfl) | with_reducible rfl
    simp only [Act.put, List.setIfInBounds_toArray, List.set_cons_zero, List.set_cons_succ]
    refine tk (v := ?_) 5 ?_ ?_
    rotate_left
    · intro w hSw
      (try dsimp only at hSw)
      first | (go_simp; done) | (go_simp; with_reducible rfl) | with_reducible rfl
    simp only [Act.put, List.setIfInBounds_toArray, List.set_cons_zero, List.set_cons_succ]
    refine tk (v := ?_) 6 ?_ ?_
    rotate_left
    · intro w hSw
      (try dsimp only at hSw)
      first | (go_simp; done) | (go_simp; with_reducible rfl) | with_reducible rfl
    simp only [Act.put, List.setIfInBounds_toArray, List.set_cons_zero, List.set_cons_succ]
    refine tk (v := ?_) 7 ?_ ?_
    rotate_left
    · intro w hSw
      (try dsimp only at hSw)
      first | (go_simp; done) | (go_simp; with_reducible rfl) | with_reducible rfl
    simp only [Act.put, List.setIfInBounds_toArray, List.set_cons_zero, List.set_cons_succ]
    refine wpAnyH_done (by kernel_rfl) ?_ _
    have lk := ((HC.out W4 N4.out).hears.new ((Mod.refl _ _).drew.drew)).look ip
    rw [gh] at lk
    have k6 : W4.cell? ⟨B, 6, none⟩ = some (.int .i64 c.min) := (HC.out W4 N4.out).row.cellv 6 rfl
    have k7 : W4.cell? ⟨B, 7, none⟩ = some (.map (some H)) := (HC.out W4 N4.out).row.cellv 7 rfl
    have b1 : W4.cell? ⟨w.heap.size, 1, none⟩ = some (.string ip) := B6c.out.cellv 1 rfl
    go_wp2_with fail
    refine wp_region_held_drew (S := (fun w' => w'.cell? ⟨B, 6, none⟩ = some (.int .i64 c.min) ∧ w'.cell? ⟨B, 7, none⟩ = some (.map (some H)) ∧ w'.cell? ⟨w.heap.size, 1, none⟩ = some (.string ip) ∧ (Instr.lookup 60 (.map (some H)) (.string ip) false).run Tryz.prog w' = .ok (.int .i64 20) w')) (by kernel_rfl) ⟨k6, k7, b1, lk⟩ (fun hHeld => ?_)
    refine tk (v := ?_) 0 ?_ ?_
    rotate_left
    · intro w hSw
      (try dsimp only at hSw)
      first | (go_simp; done) | (go_simp; with_reducible rfl) | with_reducible rfl
    simp only [Act.put, List.setIfInBounds_toArray, List.set_cons_zero, List.set_cons_succ]
    refine tk (v := ?_) 1 ?_ ?_
    rotate_left
    · intro w hSw
      (try dsimp only at hSw)
      first | (go_simp; done) | (go_simp; with_reducible rfl) | with_reducible rfl
    simp only [Act.put, List.setIfInBounds_toArray, List.set_cons_zero, List.set_cons_succ]
    refine tk (v := ?_) 2 ?_ ?_
    rotate_left
    · intro w hSw
      (try dsimp only at hSw)
      first | (go_simp; done) | (go_simp; with_reducible rfl) | with_reducible rfl
    simp only [Act.put, List.setIfInBounds_toArray, List.set_cons_zero, List.set_cons_succ]
    refine tk (v := ?_) 3 ?_ ?_
    rotate_left
    · intro w hSw
      (try dsimp only at hSw)
      first | (go_simp; done) | (go_simp; with_reducible rfl) | with_reducible rfl
    simp only [Act.put, List.setIfInBounds_toArray, List.set_cons_zero, List.set_cons_succ]
    refine tk (v := ?_) 4 ?_ ?_
    rotate_left
    · intro w hSw
      (try dsimp only at hSw)
      first | (go_simp; done) | (go_simp; with_reducible rfl) | with_reducible rfl
    simp only [Act.put, List.setIfInBounds_toArray, List.set_cons_zero, List.set_cons_succ]
    refine tk (v := ?_) 5 ?_ ?_
    rotate_left
    · intro w hSw
      (try dsimp only at hSw)
      first | (go_simp; done) | (go_simp; with_reducible rfl) | with_reducible rfl
    simp only [Act.put, List.setIfInBounds_toArray, List.set_cons_zero, List.set_cons_succ]
    refine tk (v := ?_) 6 ?_ ?_
    rotate_left
    · intro w hSw
      (try dsimp only at hSw)
      first | (go_simp; done) | (go_simp; with_reducible rfl) | with_reducible rfl
    simp only [Act.put, List.setIfInBounds_toArray, List.set_cons_zero, List.set_cons_succ]
    refine tk (v := ?_) 7 ?_ ?_
    rotate_left
    · intro w hSw
      (try dsimp only at hSw)
      first | (go_simp; done) | (go_simp; with_reducible rfl) | with_reducible rfl
    simp only [Act.put, List.setIfInBounds_toArray, List.set_cons_zero, List.set_cons_succ]
    refine tk (v := ?_) 8 ?_ ?_
    rotate_left
    · intro w hSw
      (try dsimp only at hSw)
      first | (go_simp; done) | (go_simp; with_reducible rfl) | with_reducible rfl
    simp only [Act.put, List.setIfInBounds_toArray, List.set_cons_zero, List.set_cons_succ]
    refine tk (v := ?_) 9 ?_ ?_
    rotate_left
    · intro w hSw
      (try dsimp only at hSw)
      first | (go_simp; done) | (go_simp; with_reducible rfl) | with_reducible rfl
    simp only [Act.put, List.setIfInBounds_toArray, List.set_cons_zero, List.set_cons_succ]
    refine tk (v := ?_) 10 ?_ ?_
    rotate_left
    · intro w hSw
      (try dsimp only at hSw)
      first | (go_simp; done) | (go_simp; with_reducible rfl) | with_reducible rfl
    simp only [Act.put, List.setIfInBounds_toArray, List.set_cons_zero, List.set_cons_succ]
    refine tk (v := ?_) 11 ?_ ?_
    rotate_left
    · intro w hSw
      (try dsimp only at hSw)
      first | (go_simp; done) | (go_simp; with_reducible rfl) | with_reducible rfl
    simp only [Act.put, List.setIfInBounds_toArray, List.set_cons_zero, List.set_cons_succ]
    refine tk (v := ?_) 12 ?_ ?_
    rotate_left
    · intro w hSw
      (try dsimp only at hSw)
      first | (go_simp; done) | (go_simp; with_reducible rfl) | with_reducible rfl
    simp only [Act.put, List.setIfInBounds_toArray, List.set_cons_zero, List.set_cons_succ]
    refine tk (v := ?_) 13 ?_ ?_
    rotate_left
    · intro w hSw
      (try dsimp only at hSw)
      first | (go_simp; done) | (go_simp; with_reducible rfl) | with_reducible rfl
    simp only [Act.put, List.setIfInBounds_toArray, List.set_cons_zero, List.set_cons_succ]
    refine tk (v := ?_) 14 ?_ ?_
    rotate_left
    · intro w hSw
      (try dsimp only at hSw)
      first | (go_simp; done) | (go_simp; with_reducible rfl) | with_reducible rfl
    simp only [Act.put, List.setIfInBounds_toArray, List.set_cons_zero, List.set_cons_succ]
    refine tk (v := ?_) 15 ?_ ?_
    rotate_left
    · intro w hSw
      (try dsimp only at hSw)
      first | (go_simp; done) | (go_simp; with_reducible rfl) | with_reducible rfl
    simp only [Act.put, List.setIfInBounds_toArray, List.set_cons_zero, List.set_cons_succ]
    refine tk (v := ?_) 16 ?_ ?_
    rotate_left
    · intro w hSw
      (try dsimp only at hSw)
      first | (go_simp; done) | (go_simp; with_reducible rfl) | with_reducible rfl
    simp only [Act.put, List.setIfInBounds_toArray, List.set_cons_zero, List.set_cons_succ]
    refine tk (v := ?_) 17 ?_ ?_
    rotate_left
    · intro w hSw
      (try dsimp only at hSw)
      first | (go_simp; done) | (go_simp; with_reducible rfl) | with_reducible rfl
    simp only [Act.put, List.setIfInBounds_toArray, List.set_cons_zero, List.set_cons_succ]
    refine wpAnyH_done (by kernel_rfl) ?_ _
    go_wp2_with fail
    refine name_worldC (p := fun W => bodyPost _ _ _ _ _ W) (fun W6 hW6 => ?_)
    have G9 : Blk W6 (w.heap.size + 1) #[.int .i64 0, .string ⟨#[]⟩, .int .i64 0] 40 := by
      rw [hW6]
      exact (((((B9c.out)).set 0 _).set 1 _).set 2 _).row (by simp)
    have N6 : New w W6 := by
      rw [hW6]
      repeat (with_reducible refine Mod.drew ?_)
      refine Mod.set (S := fun _ => False) ?_ ⟨w.heap.size + 1, 2, none⟩ _ (.inr (by simp))
      refine Mod.set (S := fun _ => False) ?_ ⟨w.heap.size + 1, 1, none⟩ _ (.inr (by simp))
      refine Mod.set (S := fun _ => False) ?_ ⟨w.heap.size + 1, 0, none⟩ _ (.inr (by simp))
      exact N4.out
    have g0 := G9.cellv 0 rfl; have g1 := G9.cellv 1 rfl; have g2 := G9.cellv 2 rfl
    refine bodyPost_ret (v := .tuple #[.slice none 0 0, adr0, .int .i64 14]) ?_ rfl ⟨rfl, N6⟩
    simp [results, Tryz.results14, go_sem, adr0, g0, g1, g2]
  · rw [if_neg gf] at hno
    exact absurd rfl hno
end Go.Proofs.YtnflhjagmngimaaGreatDoor
