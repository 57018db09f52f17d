/-
  Several texts in one, in their build order. The walk of Hear (the reference's crier). Conditions: the crier lies as told; the library's variables are laid.
-/
import Derived.Test.YtnflhjagmngimaaGreatDoorM35
import Derived.Test.YtnflhjagmngimaaGreatDoorM29
import Derived.Test.YtnflhjagmngimaaGreatDoorM39
namespace Go.Proofs.YtnflhjagmngimaaGreatDoor
set_option linter.unusedSimpArgs false
set_option linter.unusedVariables false
open Go.RowKit Go.Shelf

/-- What Hear answers. -/
def RcV.hearE (r : RcV) (t : Int) (x : AdrV) (s : ByteArray) : Int :=
  if adrOk x = false then 1 else if 1400 < s.size then 3 else if r.atE t ≠ 0 then 7 else if psE s ≠ 0 then psE s else if (psM s).cookie.data = r.cook.data then 9 else if 20 ≤ cntP r.heard x.ip (t / 60000) then 14 else 0
def RcV.hearC (r : RcV) (t : Int) (ip : ByteArray) : RcV := { r with now := t, heard := r.heard ++ [(ip, t / 60000)] }
theorem RcAt.turn {n R : Nat} {aa ah : Option Addr} {ca ch : Nat} {q r : RcV} {W W' : World} (h : RcAt W R aa ah ca ch q) (hrow : Blk W' R (rcRow aa ah ca ch r) 89) (ha : r.all = q.all) (hh : r.heard = q.heard) (hm : Mod (fun k => k = R ∨ n ≤ k) W W')
    (hlt : ∀ k, RcT R aa ah k → k < n) : RcAt W' R aa ah ca ch r := by
  refine ⟨hrow, ?_, ?_⟩
  · rw [ha]
    refine h.all.mod hm (fun x hx => ?_)
    have h1 := (h.all.blk hx).1
    have h2 := hlt _ (.inr (.inl ⟨x, hx, rfl⟩))
    omega
  · rw [hh]
    refine ownsP_mod h.heard hm (fun g hg => ?_)
    cases ah with
    | none => cases hg
    | some x =>
      injection hg with hg
      have h1 := (h.hears.blk rfl).1
      have h2 := hlt _ (.inr (.inr ⟨x, rfl, rfl⟩))
      omega
set_option maxRecDepth 100000 in
set_option maxHeartbeats 8000000 in
theorem rHear_no (R : Nat) (aa ah : Option Addr) (ca ch : Nat) (r : RcV) (t : Int) (x : AdrV) (s : ByteArray) (w : World) (h : RcAt w R aa ah ca ch r) (ho : RcOk r) (hv : ∀ W, Mod (· = R) w W → VarsL W) (hs : x.ip.size ≤ maxLen) (hz : s.size ≤ maxLen) (hno : r.hearE t x s ≠ 0) :
    Calls Tryz.prog 23 #[.pointer (some ⟨R, 0, none⟩), .int .i64 t, .agg #[.int .i64 x.fam, .string x.ip, .int .i64 x.port], .string s] w fun e w' => e = .returned (.tuple #[.slice none 0 0, adr0, .int .i64 (r.hearE t x s)]) ∧ RcAt w' R aa ah ca ch r ∧ Mod (· = R) w w' := by
  obtain ⟨fam, ip, port⟩ := x
  simp only at hs ⊢
  unfold RcV.hearE at hno ⊢
  have HC := hid (fun W (n : New w W) => h.new n)
  have HV := hid hv
  unfold maxLen at hz
  have hRl := h.row.lt
  have hmany := ho.many; have hnow := ho.now
  clear h hv
  by_cases ga : adrOk ⟨fam, ip, port⟩ = false
  · rw [if_pos ga]
    clear hno
    have HAV := hid (fun W => radr_any ⟨fam, ip, port⟩ W hs)
    simp only [ga] at HAV
    go_enter Tryz.func23, Tryz.ntmps23
    go_wp2_with fail
    refine (HAV.out _).mono ?_
    rintro e w1 ⟨rfl, n1⟩
    have B6 := hid (New.blk n1 ((Blk.new w #[.int .i64 fam, .string ip, .int .i64 port] 40).alloc (.cells #[.int .i64 0, .string ⟨#[]⟩, .int .i64 0] 40)))
    have B9 := hid (New.blk n1 (Blk.newAt (w := w.alloc (.cells #[.int .i64 fam, .string ip, .int .i64 port] 40)) (b := w.heap.size + 1) (cs := #[.int .i64 0, .string ⟨#[]⟩, .int .i64 0]) (t := 40) (by simp)))
    have N1 := hid ((((Mod.refl (fun _ => False) w).alloc _).alloc _).trans n1)
    have R1 := hid (HC.out w1 N1.out)
    clear n1
    have z0 := B9.out.cellv 0 rfl; have z1 := B9.out.cellv 1 rfl; have z2 := B9.out.cellv 2 rfl; have zl := B9.out.lt
    have y0 := B9.out.frz 0; have y1 := B9.out.frz 1; have y2 := B9.out.frz 2
    have q5 : w1.cell? ⟨R, 5, none⟩ = some (.int .i64 r.now) := R1.out.row.cellv 5 rfl
    have ql := R1.out.row.lt
    go_wp2_with fail
    refine name_worldC (p := fun W => bodyPost _ _ _ _ _ W) (fun W6 hW6 => ?_)
    have G9 : Blk W6 (w.heap.size + 1) #[.int .i64 0, .string ⟨#[]⟩, .int .i64 0] 40 := by
      rw [hW6]
      exact ((((B9.out).set 0 _).set 1 _).set 2 _).row (by simp)
    have N6 : Mod (fun k => k = w.heap.size + 1) w1 W6 := by
      rw [hW6]
      repeat (with_reducible refine Mod.drew ?_)
      refine Mod.set (S := fun k => k = w.heap.size + 1) ?_ ⟨w.heap.size + 1, 2, none⟩ _ (.inl rfl)
      refine Mod.set (S := fun k => k = w.heap.size + 1) ?_ ⟨w.heap.size + 1, 1, none⟩ _ (.inl rfl)
      refine Mod.set (S := fun k => k = w.heap.size + 1) ?_ ⟨w.heap.size + 1, 0, none⟩ _ (.inl rfl)
      exact Mod.refl _ _
    have g0 := G9.cellv 0 rfl; have g1 := G9.cellv 1 rfl; have g2 := G9.cellv 2 rfl
    refine bodyPost_ret (v := .tuple #[.slice none 0 0, adr0, .int .i64 1]) ?_ rfl ⟨rfl, (R1.out).mod N6 (fun k hk => by have := (HC.out w (Mod.refl _ _)).over k hk; omega), (New.mod N1.out).trans' N6 (fun k hk q => by omega)⟩
    simp [results, Tryz.results23, go_sem, adr0, g0, g1, g2]
  have ga : adrOk ⟨fam, ip, port⟩ = true := by simpa using ga
  rw [if_neg (by rw [ga]; decide)] at hno ⊢
  by_cases gl : 1400 < s.size
  · rw [if_pos gl]
    have e1 : (1400 : Int) < (s.size : Int) := by omega
    clear hno gl
    have HAV := hid (fun W => radr_any ⟨fam, ip, port⟩ W hs)
    simp only [ga] at HAV
    go_enter Tryz.func23, Tryz.ntmps23
    go_wp2_with fail
    refine (HAV.out _).mono ?_
    rintro e w1 ⟨rfl, n1⟩
    have B6 := hid (New.blk n1 ((Blk.new w #[.int .i64 fam, .string ip, .int .i64 port] 40).alloc (.cells #[.int .i64 0, .string ⟨#[]⟩, .int .i64 0] 40)))
    have B9 := hid (New.blk n1 (Blk.newAt (w := w.alloc (.cells #[.int .i64 fam, .string ip, .int .i64 port] 40)) (b := w.heap.size + 1) (cs := #[.int .i64 0, .string ⟨#[]⟩, .int .i64 0]) (t := 40) (by simp)))
    have N1 := hid ((((Mod.refl (fun _ => False) w).alloc _).alloc _).trans n1)
    have R1 := hid (HC.out w1 N1.out)
    clear n1
    have z0 := B9.out.cellv 0 rfl; have z1 := B9.out.cellv 1 rfl; have z2 := B9.out.cellv 2 rfl; have zl := B9.out.lt
    have y0 := B9.out.frz 0; have y1 := B9.out.frz 1; have y2 := B9.out.frz 2
    have q5 : w1.cell? ⟨R, 5, none⟩ = some (.int .i64 r.now) := R1.out.row.cellv 5 rfl
    have ql := R1.out.row.lt
    go_wp2_with fail
    refine name_worldC (p := fun W => bodyPost _ _ _ _ _ W) (fun W6 hW6 => ?_)
    have G9 : Blk W6 (w.heap.size + 1) #[.int .i64 0, .string ⟨#[]⟩, .int .i64 0] 40 := by
      rw [hW6]
      exact ((((B9.out).set 0 _).set 1 _).set 2 _).row (by simp)
    have N6 : Mod (fun k => k = w.heap.size + 1) w1 W6 := by
      rw [hW6]
      repeat (with_reducible refine Mod.drew ?_)
      refine Mod.set (S := fun k => k = w.heap.size + 1) ?_ ⟨w.heap.size + 1, 2, none⟩ _ (.inl rfl)
      refine Mod.set (S := fun k => k = w.heap.size + 1) ?_ ⟨w.heap.size + 1, 1, none⟩ _ (.inl rfl)
      refine Mod.set (S := fun k => k = w.heap.size + 1) ?_ ⟨w.heap.size + 1, 0, none⟩ _ (.inl rfl)
      exact Mod.refl _ _
    have g0 := G9.cellv 0 rfl; have g1 := G9.cellv 1 rfl; have g2 := G9.cellv 2 rfl
    refine bodyPost_ret (v := .tuple #[.slice none 0 0, adr0, .int .i64 3]) ?_ rfl ⟨rfl, (R1.out).mod N6 (fun k hk => by have := (HC.out w (Mod.refl _ _)).over k hk; omega), (New.mod N1.out).trans' N6 (fun k hk q => by omega)⟩
    simp [results, Tryz.results23, go_sem, adr0, g0, g1, g2]
  rw [if_neg gl] at hno ⊢
  have e1 : ¬ (1400 : Int) < (s.size : Int) := by omega
  by_cases gt : r.atE t ≠ 0
  · rw [if_pos gt]
    have HGT := hid gt
    have h7 : r.atE t = 7 := by
      unfold RcV.atE at gt ⊢
      split at gt
      · rename_i q; rw [if_pos q]
      · exact absurd rfl gt
    have HAT := hid (fun W (n : New w W) => rat_no R aa ah ca ch r t W (HC.out W n) HGT.out)
    rw [h7] at HAT
    clear hno gt h7
    have HAV := hid (fun W => radr_any ⟨fam, ip, port⟩ W hs)
    simp only [ga] at HAV
    go_enter Tryz.func23, Tryz.ntmps23
    go_wp2_with fail
    refine (HAV.out _).mono ?_
    rintro e w1 ⟨rfl, n1⟩
    have B6 := hid (New.blk n1 ((Blk.new w #[.int .i64 fam, .string ip, .int .i64 port] 40).alloc (.cells #[.int .i64 0, .string ⟨#[]⟩, .int .i64 0] 40)))
    have B9 := hid (New.blk n1 (Blk.newAt (w := w.alloc (.cells #[.int .i64 fam, .string ip, .int .i64 port] 40)) (b := w.heap.size + 1) (cs := #[.int .i64 0, .string ⟨#[]⟩, .int .i64 0]) (t := 40) (by simp)))
    have N1 := hid ((((Mod.refl (fun _ => False) w).alloc _).alloc _).trans n1)
    have R1 := hid (HC.out w1 N1.out)
    clear n1
    have z0 := B9.out.cellv 0 rfl; have z1 := B9.out.cellv 1 rfl; have z2 := B9.out.cellv 2 rfl; have zl := B9.out.lt
    have y0 := B9.out.frz 0; have y1 := B9.out.frz 1; have y2 := B9.out.frz 2
    have q5 : w1.cell? ⟨R, 5, none⟩ = some (.int .i64 r.now) := R1.out.row.cellv 5 rfl
    have ql := R1.out.row.lt
    go_wp2_with fail
    refine (HAT.out _ N1.out).mono ?_
    rintro e w2 ⟨rfl, rfl⟩
    go_wp2_with fail
    refine name_worldC (p := fun W => bodyPost _ _ _ _ _ W) (fun W6 hW6 => ?_)
    have G9 : Blk W6 (w.heap.size + 1) #[.int .i64 0, .string ⟨#[]⟩, .int .i64 0] 40 := by
      rw [hW6]
      exact ((((B9.out).set 0 _).set 1 _).set 2 _).row (by simp)
    have N6 : Mod (fun k => k = w.heap.size + 1) w1 W6 := by
      rw [hW6]
      repeat (with_reducible refine Mod.drew ?_)
      refine Mod.set (S := fun k => k = w.heap.size + 1) ?_ ⟨w.heap.size + 1, 2, none⟩ _ (.inl rfl)
      refine Mod.set (S := fun k => k = w.heap.size + 1) ?_ ⟨w.heap.size + 1, 1, none⟩ _ (.inl rfl)
      refine Mod.set (S := fun k => k = w.heap.size + 1) ?_ ⟨w.heap.size + 1, 0, none⟩ _ (.inl rfl)
      exact Mod.refl _ _
    have g0 := G9.cellv 0 rfl; have g1 := G9.cellv 1 rfl; have g2 := G9.cellv 2 rfl
    refine bodyPost_ret (v := .tuple #[.slice none 0 0, adr0, .int .i64 7]) ?_ rfl ⟨rfl, (R1.out).mod N6 (fun k hk => by have := (HC.out w (Mod.refl _ _)).over k hk; omega), (New.mod N1.out).trans' N6 (fun k hk q => by omega)⟩
    simp [results, Tryz.results23, go_sem, adr0, g0, g1, g2]
  have gt : r.atE t = 0 := by omega
  rw [if_neg (by rw [gt]; decide)] at hno ⊢
  have HAT := hid (fun W (n : New w W) => rat_go R aa ah ca ch r t W (HC.out W n) gt)
  have HPS := hid (fun W (n : Mod (· = R) w W) => rParse_new s W (HV.out W n) (by unfold maxLen; omega))
  obtain ⟨t0, t1⟩ := ratE_zero gt
  obtain ⟨m, hm⟩ : ∃ m, m = psM s := ⟨_, rfl⟩
  obtain ⟨E, hE⟩ : ∃ E, E = psE s := ⟨_, rfl⟩
  rw [← hm, ← hE] at HPS
  rw [← hm, ← hE] at hno
  rw [← hm, ← hE]
  clear hm hE gt
  by_cases ge : E ≠ 0
  · rw [if_pos ge]
    have e2 : (E == 0) = false := by rw [beq_eq_false_iff_ne]; exact ge
    have e3 : (E != 0) = true := by rw [bne, e2]; rfl
    clear hno ge
    have HAV := hid (fun W => radr_any ⟨fam, ip, port⟩ W hs)
    simp only [ga] at HAV
    go_enter Tryz.func23, Tryz.ntmps23
    go_wp2_with fail
    refine (HAV.out _).mono ?_
    rintro e w1 ⟨rfl, n1⟩
    have B6 := hid (New.blk n1 ((Blk.new w #[.int .i64 fam, .string ip, .int .i64 port] 40).alloc (.cells #[.int .i64 0, .string ⟨#[]⟩, .int .i64 0] 40)))
    have B9 := hid (New.blk n1 (Blk.newAt (w := w.alloc (.cells #[.int .i64 fam, .string ip, .int .i64 port] 40)) (b := w.heap.size + 1) (cs := #[.int .i64 0, .string ⟨#[]⟩, .int .i64 0]) (t := 40) (by simp)))
    have N1 := hid ((((Mod.refl (fun _ => False) w).alloc _).alloc _).trans n1)
    have R1 := hid (HC.out w1 N1.out)
    clear n1
    have z0 := B9.out.cellv 0 rfl; have z1 := B9.out.cellv 1 rfl; have z2 := B9.out.cellv 2 rfl; have zl := B9.out.lt
    have y0 := B9.out.frz 0; have y1 := B9.out.frz 1; have y2 := B9.out.frz 2
    have q5 : w1.cell? ⟨R, 5, none⟩ = some (.int .i64 r.now) := R1.out.row.cellv 5 rfl
    have ql := R1.out.row.lt
    go_wp2_with fail
    refine (HAT.out _ N1.out).mono ?_
    rintro e w2 ⟨rfl, r2, m2⟩
    have R2 := hid r2
    have M2 : Hid (Mod (· = R) w w2) := hid ((New.mod N1.out).trans m2)
    have B9a := hid (m2.blk B9.out (by omega))
    have B6a := hid (m2.blk B6.out (by omega))
    clear r2 m2 z0 z1 z2 zl y0 y1 y2 q5 ql
    go_wp2_with fail
    refine (HPS.out _ M2.out).mono ?_
    rintro e w3 ⟨a3, c3, rfl, s3, n3, hb3⟩
    have S3 := hid s3
    have HB3 := hid hb3
    have HZ23 := hid n3.size
    have R3 := hid (R2.out.new n3)
    have M3 := hid (M2.out.trans (New.mod n3))
    have B9b := hid ((New.blk n3 B9a.out).alloc (.cells #[.int .i64 m.port, .slice a3 m.names.length c3, .string m.cookie] 34))
    have B6b := hid ((New.blk n3 B6a.out).alloc (.cells #[.int .i64 m.port, .slice a3 m.names.length c3, .string m.cookie] 34))
    have R3b := hid (R3.out.row.alloc (.cells #[.int .i64 m.port, .slice a3 m.names.length c3, .string m.cookie] 34))
    clear s3 n3 hb3
    have z0 := B9b.out.cellv 0 rfl; have z1 := B9b.out.cellv 1 rfl; have z2 := B9b.out.cellv 2 rfl; have zl := B9b.out.lt
    have y0 := B9b.out.frz 0; have y1 := B9b.out.frz 1; have y2 := B9b.out.frz 2
    have q5 := R3b.out.cellv 5 (v := .int .i64 t) rfl; have ql := R3b.out.lt; have qf := R3b.out.frz 5
    go_wp2_with fail
    have R3c := hid (R3.out.new ((Mod.refl _ _).alloc (.cells #[.int .i64 m.port, .slice a3 m.names.length c3, .string m.cookie] 34)))
    refine name_worldC (p := fun W => bodyPost _ _ _ _ _ W) (fun W6 hW6 => ?_)
    have G9 : Blk W6 (w.heap.size + 1) #[.int .i64 0, .string ⟨#[]⟩, .int .i64 0] 40 := by
      rw [hW6]
      apply Blk.row
      · repeat (first | with_reducible exact B9b.out | (with_reducible apply Blk.newAt; (simp; done)) | with_reducible apply Blk.alloc | with_reducible apply Blk.drew | with_reducible apply Blk.drewN | with_reducible apply Blk.set | (with_reducible apply Blk.other; · first | (simp; done) | (simp; omega) | omega) | (with_reducible apply Blk.putObj; · first | (simp; done) | (simp; omega) | omega))
      · simp
    have GR : Blk W6 R (rcRow aa ah ca ch r) 89 := by
      rw [hW6]
      apply Blk.row
      · repeat (first | with_reducible exact (R3c.out).row | (with_reducible apply Blk.newAt; (simp; done)) | with_reducible apply Blk.alloc | with_reducible apply Blk.drew | with_reducible apply Blk.drewN | with_reducible apply Blk.set | (with_reducible apply Blk.other; · first | (simp; done) | (simp; omega) | omega) | (with_reducible apply Blk.putObj; · first | (simp; done) | (simp; omega) | omega))
      · simp [rcRow]
    have N6 : Mod (fun k => k = R ∨ w.heap.size ≤ k) (w3.alloc (.cells #[.int .i64 m.port, .slice a3 m.names.length c3, .string m.cookie] 34)) W6 := by
      rw [hW6]
      repeat (first | with_reducible exact Mod.refl _ _ | with_reducible refine Mod.alloc ?_ _ | with_reducible refine Mod.drew ?_ | with_reducible refine Mod.drewN ?_ _ | (with_reducible refine Mod.set ?_ _ _ (by first | exact .inl rfl | (right; omega) | (right; simp; done) | (right; simp; omega) | (left; omega) | (left; simp; done) | (left; simp; omega))) | (with_reducible refine Mod.putObj ?_ _ _ (by first | exact .inl rfl | (right; omega) | (right; simp; done) | (right; simp; omega) | (left; omega) | (left; simp; done) | (left; simp; omega))))
    have g0 := G9.cellv 0 rfl; have g1 := G9.cellv 1 rfl; have g2 := G9.cellv 2 rfl
    refine bodyPost_ret (v := .tuple #[.slice none 0 0, adr0, .int .i64 E]) ?_ rfl ⟨rfl, (R3c.out).turn GR rfl rfl N6 (fun k hk => ((HC.out w (Mod.refl _ _)).over k hk).2), (M3.out.alloc (.cells #[.int .i64 m.port, .slice a3 m.names.length c3, .string m.cookie] 34)).trans' N6 (fun k hk q => by omega)⟩
    simp [results, Tryz.results23, go_sem, adr0, g0, g1, g2]
  have ge : E = 0 := by omega
  subst ge
  rw [if_neg (by decide)] at hno ⊢
  by_cases gk : m.cookie.data = r.cook.data
  · rw [if_pos gk]
    have hck := hid (ba_eq gk)
    have hbb : (r.cook.toList == r.cook.toList) = true := by rw [beq_iff_eq]
    clear hno gk
    have HAV := hid (fun W => radr_any ⟨fam, ip, port⟩ W hs)
    simp only [ga] at HAV
    go_enter Tryz.func23, Tryz.ntmps23
    go_wp2_with fail
    refine (HAV.out _).mono ?_
    rintro e w1 ⟨rfl, n1⟩
    have B6 := hid (New.blk n1 ((Blk.new w #[.int .i64 fam, .string ip, .int .i64 port] 40).alloc (.cells #[.int .i64 0, .string ⟨#[]⟩, .int .i64 0] 40)))
    have B9 := hid (New.blk n1 (Blk.newAt (w := w.alloc (.cells #[.int .i64 fam, .string ip, .int .i64 port] 40)) (b := w.heap.size + 1) (cs := #[.int .i64 0, .string ⟨#[]⟩, .int .i64 0]) (t := 40) (by simp)))
    have N1 := hid ((((Mod.refl (fun _ => False) w).alloc _).alloc _).trans n1)
    have R1 := hid (HC.out w1 N1.out)
    clear n1
    have z0 := B9.out.cellv 0 rfl; have z1 := B9.out.cellv 1 rfl; have z2 := B9.out.cellv 2 rfl; have zl := B9.out.lt
    have y0 := B9.out.frz 0; have y1 := B9.out.frz 1; have y2 := B9.out.frz 2
    have q5 : w1.cell? ⟨R, 5, none⟩ = some (.int .i64 r.now) := R1.out.row.cellv 5 rfl
    have ql := R1.out.row.lt
    go_wp2_with fail
    refine (HAT.out _ N1.out).mono ?_
    rintro e w2 ⟨rfl, r2, m2⟩
    have R2 := hid r2
    have M2 : Hid (Mod (· = R) w w2) := hid ((New.mod N1.out).trans m2)
    have B9a := hid (m2.blk B9.out (by omega))
    have B6a := hid (m2.blk B6.out (by omega))
    clear r2 m2 z0 z1 z2 zl y0 y1 y2 q5 ql
    go_wp2_with fail
    refine (HPS.out _ M2.out).mono ?_
    rintro e w3 ⟨a3, c3, rfl, s3, n3, hb3⟩
    have S3 := hid s3
    have HB3 := hid hb3
    have HZ23 := hid n3.size
    have R3 := hid (R2.out.new n3)
    have M3 := hid (M2.out.trans (New.mod n3))
    have B9b := hid ((New.blk n3 B9a.out).alloc (.cells #[.int .i64 m.port, .slice a3 m.names.length c3, .string m.cookie] 34))
    have B6b := hid ((New.blk n3 B6a.out).alloc (.cells #[.int .i64 m.port, .slice a3 m.names.length c3, .string m.cookie] 34))
    have R3b := hid (R3.out.row.alloc (.cells #[.int .i64 m.port, .slice a3 m.names.length c3, .string m.cookie] 34))
    clear s3 n3 hb3
    go_wp2_with fail
    refine name_worldC (p := fun W => Code.wp _ _ _ _ W) (fun W4 hW4 => ?_)
    have B12 : Hid (Blk W4 w3.heap.size #[.int .i64 m.port, .slice a3 m.names.length c3, .string m.cookie] 34) := hid (by rw [hW4]; exact Blk.new w3 _ _)
    have B9c : Hid (Blk W4 (w.heap.size + 1) #[.int .i64 0, .string ⟨#[]⟩, .int .i64 0] 40) := hid (by rw [hW4]; exact B9b.out)
    have B6c : Hid (Blk W4 w.heap.size #[.int .i64 fam, .string ip, .int .i64 port] 40) := hid (by rw [hW4]; exact B6b.out)
    have N34 : Hid (New w3 W4) := hid (by rw [hW4]; exact (Mod.refl _ _).alloc _)
    have R4 := hid (R3.out.new N34.out)
    have M4 : Hid (Mod (· = R) w W4) := hid (M3.out.trans (New.mod N34.out))
    have S4 := hid (S3.out.new N34.out)
    clear hW4
    have d2 : W4.cell? ⟨w3.heap.size, 2, none⟩ = some (.string m.cookie) := B12.out.cellv 2 rfl
    have k1 : W4.cell? ⟨R, 0, none⟩ = some (.string r.cook) := R4.out.row.cellv 0 rfl
    have kl := R4.out.row.lt
    rw [hck.out] at d2
    refine wp_region_held_drew (S := (fun w' => w'.cell? ⟨w3.heap.size, 2, none⟩ = some (.string r.cook) ∧ w'.cell? ⟨R, 0, none⟩ = some (.string r.cook))) (by kernel_rfl) ⟨d2, k1⟩ (fun hHeld => ?_)
    refine tk (v := ?_) 0 ?_ ?_
    rotate_left
    · intro w hSw
      (try dsimp only at hSw)
      first | (go_simp; done) | (go_simp; with_reducible rfl) | with_reducible rfl
    simp only [Act.put, List.setIfInBounds_toArray, List.set_cons_zero, List.set_cons_succ]
    refine tk (v := ?_) 1 ?_ ?_
    rotate_left
    · intro w hSw
      (try dsimp only at hSw)
      first | (go_simp; done) | (go_simp; with_reducible rfl) | with_reducible rfl
    simp only [Act.put, List.setIfInBounds_toArray, List.set_cons_zero, List.set_cons_succ]
    refine tk (v := ?_) 2 ?_ ?_
    rotate_left
    · intro w hSw
      (try dsimp only at hSw)
      first | (go_simp; done) | (go_simp; with_reducible rfl) | with_reducible rfl
    simp only [Act.put, List.setIfInBounds_toArray, List.set_cons_zero, List.set_cons_succ]
    refine tk (v := ?_) 3 ?_ ?_
    rotate_left
    · intro w hSw
      (try dsimp only at hSw)
      first | (go_simp; done) | (go_simp; with_reducible rfl) | with_reducible rfl
    simp only [Act.put, List.setIfInBounds_toArray, List.set_cons_zero, List.set_cons_succ]
    refine tk (v := ?_) 4 ?_ ?_
    rotate_left
    · intro w hSw
      (try dsimp only at hSw)
      first | (go_simp; done) | (go_simp; with_reducible rfl) | with_reducible rfl
    simp only [Act.put, List.setIfInBounds_toArray, List.set_cons_zero, List.set_cons_succ]
    refine tk (v := ?_) 5 ?_ ?_
    rotate_left
    · intro w hSw
      (try dsimp only at hSw)
      first | (go_simp; done) | (go_simp; with_reducible rfl) | with_reducible rfl
    simp only [Act.put, List.setIfInBounds_toArray, List.set_cons_zero, List.set_cons_succ]
    refine tk (v := ?_) 6 ?_ ?_
    rotate_left
    · intro w hSw
      (try dsimp only at hSw)
      first | (go_simp; done) | (go_simp; with_reducible rfl) | with_reducible rfl
    simp only [Act.put, List.setIfInBounds_toArray, List.set_cons_zero, List.set_cons_succ]
    refine tk (v := ?_) 7 ?_ ?_
    rotate_left
    · intro w hSw
      (try dsimp only at hSw)
      first | (go_simp; done) | (go_simp; with_reducible rfl) | with_reducible rfl
    simp only [Act.put, List.setIfInBounds_toArray, List.set_cons_zero, List.set_cons_succ]
    refine wpAnyH_done (by kernel_rfl) ?_ _
    have z0 := B9c.out.cellv 0 rfl; have z1 := B9c.out.cellv 1 rfl; have z2 := B9c.out.cellv 2 rfl; have zl := B9c.out.lt
    have y0 := B9c.out.frz 0; have y1 := B9c.out.frz 1; have y2 := B9c.out.frz 2
    have q5 := R4.out.row.cellv 5 (v := .int .i64 t) rfl; have ql := R4.out.row.lt; have qf := R4.out.row.frz 5
    go_wp2_with fail
    refine name_worldC (p := fun W => bodyPost _ _ _ _ _ W) (fun W6 hW6 => ?_)
    have G9 : Blk W6 (w.heap.size + 1) #[.int .i64 0, .string ⟨#[]⟩, .int .i64 0] 40 := by
      rw [hW6]
      apply Blk.row
      · repeat (first | with_reducible exact B9c.out | (with_reducible apply Blk.newAt; (simp; done)) | with_reducible apply Blk.alloc | with_reducible apply Blk.drew | with_reducible apply Blk.drewN | with_reducible apply Blk.set | (with_reducible apply Blk.other; · first | (simp; done) | (simp; omega) | omega) | (with_reducible apply Blk.putObj; · first | (simp; done) | (simp; omega) | omega))
      · simp
    have GR : Blk W6 R (rcRow aa ah ca ch r) 89 := by
      rw [hW6]
      apply Blk.row
      · repeat (first | with_reducible exact (R4.out).row | (with_reducible apply Blk.newAt; (simp; done)) | with_reducible apply Blk.alloc | with_reducible apply Blk.drew | with_reducible apply Blk.drewN | with_reducible apply Blk.set | (with_reducible apply Blk.other; · first | (simp; done) | (simp; omega) | omega) | (with_reducible apply Blk.putObj; · first | (simp; done) | (simp; omega) | omega))
      · simp [rcRow]
    have N6 : Mod (fun k => k = R ∨ w.heap.size ≤ k) W4 W6 := by
      rw [hW6]
      repeat (first | with_reducible exact Mod.refl _ _ | with_reducible refine Mod.alloc ?_ _ | with_reducible refine Mod.drew ?_ | with_reducible refine Mod.drewN ?_ _ | (with_reducible refine Mod.set ?_ _ _ (by first | exact .inl rfl | (right; omega) | (right; simp; done) | (right; simp; omega) | (left; omega) | (left; simp; done) | (left; simp; omega))) | (with_reducible refine Mod.putObj ?_ _ _ (by first | exact .inl rfl | (right; omega) | (right; simp; done) | (right; simp; omega) | (left; omega) | (left; simp; done) | (left; simp; omega))))
    have g0 := G9.cellv 0 rfl; have g1 := G9.cellv 1 rfl; have g2 := G9.cellv 2 rfl
    refine bodyPost_ret (v := .tuple #[.slice none 0 0, adr0, .int .i64 9]) ?_ rfl ⟨rfl, (R4.out).turn GR rfl rfl N6 (fun k hk => ((HC.out w (Mod.refl _ _)).over k hk).2), (M4.out).trans' N6 (fun k hk q => by omega)⟩
    simp [results, Tryz.results23, go_sem, adr0, g0, g1, g2]
  rw [if_neg gk] at hno ⊢
  have hk1 : (m.cookie.toList == r.cook.toList) = false := by
    rw [beq_eq_false_iff_ne, ByteArray.toList_eq, ByteArray.toList_eq]
    intro q
    exact gk (by cases hm : m.cookie.data; cases hc : r.cook.data; rw [hm, hc] at q; simp at q; rw [q])
  clear gk
  by_cases gf : 20 ≤ cntP r.heard ip (t / 60000)
  · rw [if_pos gf]
    have hq : t.tdiv 60000 = t / 60000 := Int.tdiv_eq_ediv_of_nonneg (by omega)
    have hqw : IntKind.i64.wrap (t / 60000) = t / 60000 := by rw [IntKind.wrap_i64]; omega
    have HCN := hid (fun W (q : RcAt W R aa ah ca ch { r with now := t }) => count_any R aa ah ca ch _ ip (t / 60000) W q hmany)
    have eg : decide (((cntP r.heard ip (t / 60000) : Nat) : Int) ≥ 20) = true := decide_eq_true (by omega)
    have eg2 : (20 : Int) ≤ ((cntP r.heard ip (t / 60000) : Nat) : Int) := by omega
    clear hno
    have HAV := hid (fun W => radr_any ⟨fam, ip, port⟩ W hs)
    simp only [ga] at HAV
    go_enter Tryz.func23, Tryz.ntmps23
    go_wp2_with fail
    refine (HAV.out _).mono ?_
    rintro e w1 ⟨rfl, n1⟩
    have B6 := hid (New.blk n1 ((Blk.new w #[.int .i64 fam, .string ip, .int .i64 port] 40).alloc (.cells #[.int .i64 0, .string ⟨#[]⟩, .int .i64 0] 40)))
    have B9 := hid (New.blk n1 (Blk.newAt (w := w.alloc (.cells #[.int .i64 fam, .string ip, .int .i64 port] 40)) (b := w.heap.size + 1) (cs := #[.int .i64 0, .string ⟨#[]⟩, .int .i64 0]) (t := 40) (by simp)))
    have N1 := hid ((((Mod.refl (fun _ => False) w).alloc _).alloc _).trans n1)
    have R1 := hid (HC.out w1 N1.out)
    clear n1
    have z0 := B9.out.cellv 0 rfl; have z1 := B9.out.cellv 1 rfl; have z2 := B9.out.cellv 2 rfl; have zl := B9.out.lt
    have y0 := B9.out.frz 0; have y1 := B9.out.frz 1; have y2 := B9.out.frz 2
    have q5 : w1.cell? ⟨R, 5, none⟩ = some (.int .i64 r.now) := R1.out.row.cellv 5 rfl
    have ql := R1.out.row.lt
    go_wp2_with fail
    refine (HAT.out _ N1.out).mono ?_
    rintro e w2 ⟨rfl, r2, m2⟩
    have R2 := hid r2
    have M2 : Hid (Mod (· = R) w w2) := hid ((New.mod N1.out).trans m2)
    have B9a := hid (m2.blk B9.out (by omega))
    have B6a := hid (m2.blk B6.out (by omega))
    clear r2 m2 z0 z1 z2 zl y0 y1 y2 q5 ql
    go_wp2_with fail
    refine (HPS.out _ M2.out).mono ?_
    rintro e w3 ⟨a3, c3, rfl, s3, n3, hb3⟩
    have S3 := hid s3
    have HB3 := hid hb3
    have HZ23 := hid n3.size
    have R3 := hid (R2.out.new n3)
    have M3 := hid (M2.out.trans (New.mod n3))
    have B9b := hid ((New.blk n3 B9a.out).alloc (.cells #[.int .i64 m.port, .slice a3 m.names.length c3, .string m.cookie] 34))
    have B6b := hid ((New.blk n3 B6a.out).alloc (.cells #[.int .i64 m.port, .slice a3 m.names.length c3, .string m.cookie] 34))
    have R3b := hid (R3.out.row.alloc (.cells #[.int .i64 m.port, .slice a3 m.names.length c3, .string m.cookie] 34))
    clear s3 n3 hb3
    go_wp2_with fail
    refine name_worldC (p := fun W => Code.wp _ _ _ _ W) (fun W4 hW4 => ?_)
    have B12 : Hid (Blk W4 w3.heap.size #[.int .i64 m.port, .slice a3 m.names.length c3, .string m.cookie] 34) := hid (by rw [hW4]; exact Blk.new w3 _ _)
    have B9c : Hid (Blk W4 (w.heap.size + 1) #[.int .i64 0, .string ⟨#[]⟩, .int .i64 0] 40) := hid (by rw [hW4]; exact B9b.out)
    have B6c : Hid (Blk W4 w.heap.size #[.int .i64 fam, .string ip, .int .i64 port] 40) := hid (by rw [hW4]; exact B6b.out)
    have N34 : Hid (New w3 W4) := hid (by rw [hW4]; exact (Mod.refl _ _).alloc _)
    have R4 := hid (R3.out.new N34.out)
    have M4 : Hid (Mod (· = R) w W4) := hid (M3.out.trans (New.mod N34.out))
    have S4 := hid (S3.out.new N34.out)
    clear hW4
    have d2 : W4.cell? ⟨w3.heap.size, 2, none⟩ = some (.string m.cookie) := B12.out.cellv 2 rfl
    have k1 : W4.cell? ⟨R, 0, none⟩ = some (.string r.cook) := R4.out.row.cellv 0 rfl
    have kl := R4.out.row.lt
    refine wp_region_held_drew (S := (fun w' => w'.cell? ⟨w3.heap.size, 2, none⟩ = some (.string m.cookie) ∧ w'.cell? ⟨R, 0, none⟩ = some (.string r.cook))) (by kernel_rfl) ⟨d2, k1⟩ (fun hHeld => ?_)
    refine tk (v := ?_) 0 ?_ ?_
    rotate_left
    · intro w hSw
      (try dsimp only at hSw)
      first | (go_simp; done) | (go_simp; with_reducible rfl) | with_reducible rfl
    simp only [Act.put, List.setIfInBounds_toArray, List.set_cons_zero, List.set_cons_succ]
    refine tk (v := ?_) 1 ?_ ?_
    rotate_left
    · intro w hSw
      (try dsimp only at hSw)
      first | (go_simp; done) | (go_simp; with_reducible rfl) | with_reducible rfl
    simp only [Act.put, List.setIfInBounds_toArray, List.set_cons_zero, List.set_cons_succ]
    refine tk (v := ?_) 2 ?_ ?_
    rotate_left
    · intro w hSw
      (try dsimp only at hSw)
      first | (go_simp; done) | (go_simp; with_reducible rfl) | with_reducible rfl
    simp only [Act.put, List.setIfInBounds_toArray, List.set_cons_zero, List.set_cons_succ]
    refine tk (v := ?_) 3 ?_ ?_
    rotate_left
    · intro w hSw
      (try dsimp only at hSw)
      first | (go_simp; done) | (go_simp; with_reducible rfl) | with_reducible rfl
    simp only [Act.put, List.setIfInBounds_toArray, List.set_cons_zero, List.set_cons_succ]
    refine tk (v := ?_) 4 ?_ ?_
    rotate_left
    · intro w hSw
      (try dsimp only at hSw)
      first | (go_simp; done) | (go_simp; with_reducible rfl) | with_reducible rfl
    simp only [Act.put, List.setIfInBounds_toArray, List.set_cons_zero, List.set_cons_succ]
    refine tk (v := ?_) 5 ?_ ?_
    rotate_left
    · intro w hSw
      (try dsimp only at hSw)
      first | (go_simp; done) | (go_simp; with_reducible rfl) | with_reducible rfl
    simp only [Act.put, List.setIfInBounds_toArray, List.set_cons_zero, List.set_cons_succ]
    refine tk (v := ?_) 6 ?_ ?_
    rotate_left
    · intro w hSw
      (try dsimp only at hSw)
      first | (go_simp; done) | (go_simp; with_reducible rfl) | with_reducible rfl
    simp only [Act.put, List.setIfInBounds_toArray, List.set_cons_zero, List.set_cons_succ]
    refine tk (v := ?_) 7 ?_ ?_
    rotate_left
    · intro w hSw
      (try dsimp only at hSw)
      first | (go_simp; done) | (go_simp; with_reducible rfl) | with_reducible rfl
    simp only [Act.put, List.setIfInBounds_toArray, List.set_cons_zero, List.set_cons_succ]
    refine wpAnyH_done (by kernel_rfl) ?_ _
    have b1 : W4.cell? ⟨w.heap.size, 1, none⟩ = some (.string ip) := B6c.out.cellv 1 rfl
    have bl := B6c.out.lt
    go_wp2_with fail
    refine (HCN.out _ (R4.out.new ((Mod.refl _ _).drew))).mono ?_
    rintro e w5 ⟨rfl, n5⟩
    have n45 : New W4 w5 := ((Mod.refl (fun _ => False) W4).drew).trans n5
    have R5 := hid (R4.out.new n45); have B9d := hid (New.blk n45 B9c.out); have M5 := hid (M4.out.trans (New.mod n45))
    clear n5 n45
    have z0 := B9d.out.cellv 0 rfl; have z1 := B9d.out.cellv 1 rfl; have z2 := B9d.out.cellv 2 rfl; have zl := B9d.out.lt
    have y0 := B9d.out.frz 0; have y1 := B9d.out.frz 1; have y2 := B9d.out.frz 2
    have q5 := R5.out.row.cellv 5 (v := .int .i64 t) rfl; have ql := R5.out.row.lt; have qf := R5.out.row.frz 5
    go_wp2_with fail
    refine name_worldC (p := fun W => bodyPost _ _ _ _ _ W) (fun W6 hW6 => ?_)
    have G9 : Blk W6 (w.heap.size + 1) #[.int .i64 0, .string ⟨#[]⟩, .int .i64 0] 40 := by
      rw [hW6]
      apply Blk.row
      · repeat (first | with_reducible exact B9d.out | (with_reducible apply Blk.newAt; (simp; done)) | with_reducible apply Blk.alloc | with_reducible apply Blk.drew | with_reducible apply Blk.drewN | with_reducible apply Blk.set | (with_reducible apply Blk.other; · first | (simp; done) | (simp; omega) | omega) | (with_reducible apply Blk.putObj; · first | (simp; done) | (simp; omega) | omega))
      · simp
    have GR : Blk W6 R (rcRow aa ah ca ch r) 89 := by
      rw [hW6]
      apply Blk.row
      · repeat (first | with_reducible exact (R5.out).row | (with_reducible apply Blk.newAt; (simp; done)) | with_reducible apply Blk.alloc | with_reducible apply Blk.drew | with_reducible apply Blk.drewN | with_reducible apply Blk.set | (with_reducible apply Blk.other; · first | (simp; done) | (simp; omega) | omega) | (with_reducible apply Blk.putObj; · first | (simp; done) | (simp; omega) | omega))
      · simp [rcRow]
    have N6 : Mod (fun k => k = R ∨ w.heap.size ≤ k) w5 W6 := by
      rw [hW6]
      repeat (first | with_reducible exact Mod.refl _ _ | with_reducible refine Mod.alloc ?_ _ | with_reducible refine Mod.drew ?_ | with_reducible refine Mod.drewN ?_ _ | (with_reducible refine Mod.set ?_ _ _ (by first | exact .inl rfl | (right; omega) | (right; simp; done) | (right; simp; omega) | (left; omega) | (left; simp; done) | (left; simp; omega))) | (with_reducible refine Mod.putObj ?_ _ _ (by first | exact .inl rfl | (right; omega) | (right; simp; done) | (right; simp; omega) | (left; omega) | (left; simp; done) | (left; simp; omega))))
    have g0 := G9.cellv 0 rfl; have g1 := G9.cellv 1 rfl; have g2 := G9.cellv 2 rfl
    refine bodyPost_ret (v := .tuple #[.slice none 0 0, adr0, .int .i64 14]) ?_ rfl ⟨rfl, (R5.out).turn GR rfl rfl N6 (fun k hk => ((HC.out w (Mod.refl _ _)).over k hk).2), (M5.out).trans' N6 (fun k hk q => by omega)⟩
    simp [results, Tryz.results23, go_sem, adr0, g0, g1, g2]
  · rw [if_neg gf] at hno
    exact absurd rfl hno
end Go.Proofs.YtnflhjagmngimaaGreatDoor
