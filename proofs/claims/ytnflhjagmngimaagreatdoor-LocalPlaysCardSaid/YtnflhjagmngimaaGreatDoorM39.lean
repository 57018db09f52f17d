/-
  Several texts in one, in their build order. The walk of a crier's Hear where a message is heard (package local). Conditions: the crier lies as told; the library's variables are laid.
-/
import Derived.Test.YtnflhjagmngimaaGreatDoorM38
import Derived.Test.YtnflhjagmngimaaGreatDoorM13
namespace Go.Proofs.YtnflhjagmngimaaGreatDoor
set_option linter.unusedSimpArgs false
set_option linter.unusedVariables false
open Go.RowKit Go.Shelf

theorem hear_parts {c : CrV} {t : Int} {x : AdrV} {s : ByteArray} (h : c.hearE t x s = 0) : adrOk x = true ∧ s.size ≤ 1400 ∧ c.atE t = 0 ∧ psE s = 0 ∧ (psM s).cookie.data ≠ c.cookie.data ∧ ¬ (t / 60000 = c.min ∧ c.heard x.ip = 20) := by
  unfold CrV.hearE at h
  split at h
  · simp at h
  · rename_i h1
    split at h
    · simp at h
    · rename_i h2
      split at h
      · simp at h
      · rename_i h3
        split at h
        · rename_i h4; exact absurd h h4
        · rename_i h4
          split at h
          · simp at h
          · rename_i h5
            split at h
            · simp at h
            · rename_i h6
              exact ⟨by simpa using h1, by omega, by omega, by omega, h5, h6⟩
theorem filter_take {l : List ByteArray} {p : ByteArray → Bool} {k : Nat} (hk : k < l.length) : (l.take (k + 1)).filter p = (l.take k).filter p ++ (if p l[k] then [l[k]] else []) := by
  rw [List.take_succ_eq_append_getElem hk, List.filter_append]
  congr 1
  cases hp : p l[k] <;> simp [hp]
theorem cell_offH {w : World} {p q : Addr} {u v : Value} (h : q.block ≠ p.block) (hc : w.cell? q = some v) : (w.setCell p u).cell? q = some v := by
  rw [World.cell?_setCell_other _ _ _ _ (fun e => h (by rw [e]))]
  exact hc
theorem strs_keep {w w' : World} {a : Option Addr} {c : Nat} {l : List ByteArray} {S : Nat → Prop} (h : StrsAt w a c l) (hm : Mod S w w') (hb : ∀ b o, l ≠ [] → b < w.heap.size → (∀ (i : Nat) s, l[i]? = some s → w.cell? ⟨b, o + i, none⟩ = some (.string s)) → ¬ S b) : StrsAt w' a c l := by
  obtain ⟨h1, h2, h3, h4⟩ := h
  refine ⟨h1, h2, h3, ?_⟩
  rcases h4 with h4 | ⟨b, o, e, hlt, hc⟩
  · exact .inl h4
  · by_cases hl : l = []
    · exact .inl hl
    · have hbk := hm.block b hlt (hb b o hl hlt hc)
      refine .inr ⟨b, o, e, Nat.lt_of_lt_of_le hlt hm.size, fun i s hi => ?_⟩
      have := hc i s hi
      unfold World.cell? at this ⊢
      rw [hbk]
      exact this
theorem no_names {w : World} {B M H : Nat} {c : CrV} (h : CrAt w B M H c) (hk : c.cookie.size = 16) {l : List ByteArray} (hne : l ≠ []) (hn : ∀ n ∈ l, n.size = 20) {b o : Nat} (hc : ∀ (i : Nat) s, l[i]? = some s → w.cell? ⟨b, o + i, none⟩ = some (.string s)) : b ≠ B ∧ b ≠ H := by
  cases l with
  | nil => exact absurd rfl hne
  | cons x r =>
    have h0 := hc 0 x rfl
    have hx := hn x List.mem_cons_self
    constructor
    · rintro rfl
      have h1 := h.row.cell (o + 0)
      rw [h0] at h1
      unfold crRow at h1
      match o, h1 with
      | 0, h1 => simp at h1
      | 1, h1 =>
        simp at h1
        rw [h1] at hx
        omega
      | 2, h1 => simp at h1
      | 3, h1 => simp at h1
      | 4, h1 => simp at h1
      | 5, h1 => simp at h1
      | 6, h1 => simp at h1
      | 7, h1 => simp at h1
      | n + 8, h1 => simp at h1
    · rintro rfl
      obtain ⟨es, clock, hb, -⟩ := h.hears.map
      simp [World.cell?, hb] at h0
set_option maxRecDepth 100000 in
set_option maxHeartbeats 8000000 in
theorem hear_yes (B M H : Nat) (c : CrV) (t : Int) (x : AdrV) (s : ByteArray) (w : World) (h : CrAt w B M H c) (hv : VarsL w) (hs : x.ip.size ≤ maxLen) (ht : 0 ≤ c.now) (hhd : ∀ k, 0 ≤ c.heard k ∧ c.heard k ≤ 20) (hmn : 0 ≤ c.min) (hok : c.hearE t x s = 0) (hpl : (psM s).names.length ≤ 20) (hck16 : c.cookie.size = 16) (hpn : ∀ n ∈ (psM s).names, n.size = 20) :
    Calls Tryz.prog 14 #[.pointer (some ⟨B, 0, none⟩), .int .i64 t, .agg #[.int .i64 x.fam, .string x.ip, .int .i64 x.port], .string s] w fun e w' =>
      ∃ (H' : Nat) (a : Option Addr) (cap : Nat), e = .returned (.tuple #[.slice a ((psM s).names.filter (inB c.all)).length cap, .agg #[.int .i64 x.fam, .string x.ip, .int .i64 (psM s).port], .int .i64 0]) ∧ StrsAt w' a cap ((psM s).names.filter (inB c.all)) ∧
        CrAt w' B M H' (c.hearC t x.ip) ∧ (H' = H ∨ w.heap.size ≤ H') ∧ Mod (fun k => k = B ∨ k = H) w w' ∧ (∀ x, a = some x → w.heap.size ≤ x.block) := by
  obtain ⟨fam, ip, port⟩ := x
  obtain ⟨ga, gl, gt, ge, gk, gf⟩ := hear_parts hok
  simp only at hs gf ⊢
  have HC := hid (fun W (n : New w W) => h.new n)
  have HV := hid (fun W (n : New w W) => hv.new n)
  have e1 : ¬ (1400 : Int) < (s.size : Int) := by omega
  have HAT := hid (fun W (n : New w W) => crAt_any B M H c t W (HC.out W n))
  rw [gt] at HAT
  have HPS := hid (fun W (n : New w W) => Parse_any s W (HV.out W n) (by unfold maxLen; omega))
  obtain ⟨t0, t1⟩ := at_factsC gt
  obtain ⟨lB, lM, lH⟩ := h.lt
  obtain ⟨ap1, ap2, ap3⟩ := h.apart
  have hk1 : ((psM s).cookie.toList == c.cookie.toList) = false := by
    rw [beq_eq_false_iff_ne, ByteArray.toList_eq, ByteArray.toList_eq]
    intro q
    exact gk (by cases hm : (psM s).cookie.data; cases hc : c.cookie.data; rw [hm, hc] at q; simp at q; rw [q])
  obtain ⟨m, hm⟩ : ∃ m, m = psM s := ⟨_, rfl⟩
  obtain ⟨ln, hln⟩ : ∃ ln, ln = psN s := ⟨_, rfl⟩
  rw [← hm] at hk1 hpl hpn ⊢
  rw [← hm, ← hln, ge] at HPS
  have hq : t.tdiv 60000 = t / 60000 := Int.tdiv_eq_ediv_of_nonneg (by omega)
  obtain ⟨q, hq2⟩ : ∃ q, q = t / 60000 := ⟨_, rfl⟩
  have hqb : 0 ≤ q ∧ q ≤ 20000 := by omega
  have hqw : IntKind.i64.wrap q = q := by rw [IntKind.wrap_i64]; omega
  have HQ := hid hq2
  rw [← hq2] at hq gf
  have HTN := hid (fun W (q : CrAt W B M H c) => turn_any B M H c t W q ⟨by omega, t1⟩)
  obtain ⟨G, hG⟩ : ∃ G, G = c.heard ip := ⟨_, rfl⟩
  rw [← hG] at gf
  have hG2 := hid hG
  clear hok gl gt ge gk hm hln hq2 h hv
  by_cases g : q = c.min
  · have e3 : (q == c.min) = true := by rw [beq_iff_eq]; exact g
    have e4 : (G == 20) = false := by rw [beq_eq_false_iff_ne]; exact fun q2 => gf ⟨g, q2⟩
    clear g gf hG
    have HAV := hid (fun W => adrValid_any ⟨fam, ip, port⟩ W hs)
    simp only [ga] at HAV
    go_enter Tryz.func14, Tryz.ntmps14
    go_wp2_with fail
    refine (HAV.out _).mono ?_
    rintro e w1 ⟨rfl, n1⟩
    have B6 := hid (New.blk n1 ((Blk.new w #[.int .i64 fam, .string ip, .int .i64 port] 40).alloc (.cells #[.int .i64 0, .string ⟨#[]⟩, .int .i64 0] 40)))
    have B9 := hid (New.blk n1 (Blk.newAt (w := w.alloc (.cells #[.int .i64 fam, .string ip, .int .i64 port] 40)) (b := w.heap.size + 1) (cs := #[.int .i64 0, .string ⟨#[]⟩, .int .i64 0]) (t := 40) (by simp)))
    have N1 := hid ((((Mod.refl (fun _ => False) w).alloc _).alloc _).trans n1)
    clear n1
    go_wp2_with fail
    refine (HAT.out _ N1.out).mono ?_
    rintro e w2 ⟨rfl, rfl⟩
    go_wp2_with fail
    refine (HPS.out _ N1.out).mono ?_
    rintro e w3 ⟨a3, c3, rfl, s3, n3⟩
    have hz13 := n3.size
    have N3 := hid (N1.out.trans n3)
    have S3 := hid s3
    have B9b := hid ((New.blk n3 B9.out).alloc (.cells #[.int .i64 m.port, .slice a3 m.names.length c3, .string m.cookie] 34))
    have B6b := hid ((New.blk n3 B6.out).alloc (.cells #[.int .i64 m.port, .slice a3 m.names.length c3, .string m.cookie] 34))
    clear s3 n3
    go_wp2_with fail
    refine name_worldC (p := fun W => Code.wp _ _ _ _ W) (fun W4 hW4 => ?_)
    have B12 : Hid (Blk W4 w3.heap.size #[.int .i64 m.port, .slice a3 m.names.length c3, .string m.cookie] 34) := hid (by rw [hW4]; exact Blk.new w3 _ _)
    have B9c : Hid (Blk W4 (w.heap.size + 1) #[.int .i64 0, .string ⟨#[]⟩, .int .i64 0] 40) := hid (by rw [hW4]; exact B9b.out)
    have B6c : Hid (Blk W4 w.heap.size #[.int .i64 fam, .string ip, .int .i64 port] 40) := hid (by rw [hW4]; exact B6b.out)
    have N4 : Hid (New w W4) := hid (by rw [hW4]; exact N3.out.alloc _)
    have S4 : Hid (StrsAt W4 a3 c3 m.names) := hid (by rw [hW4]; exact S3.out.new ((Mod.refl _ _).alloc _))
    have z3 : Hid (w.heap.size + 2 ≤ w3.heap.size) := hid (by have := B9.out.lt; omega)
    clear hW4
    have d2 : W4.cell? ⟨w3.heap.size, 2, none⟩ = some (.string m.cookie) := B12.out.cellv 2 rfl
    have k1 : W4.cell? ⟨B, 1, none⟩ = some (.string c.cookie) := (HC.out W4 N4.out).row.cellv 1 rfl
    refine wp_region_held_drew (S := (fun w' => w'.cell? ⟨w3.heap.size, 2, none⟩ = some (.string m.cookie) ∧ w'.cell? ⟨B, 1, none⟩ = some (.string c.cookie))) (by kernel_rfl) ⟨d2, k1⟩ (fun hHeld => ?_)
    refine tk (v := ?_) 0 ?_ ?_
    rotate_left
    · intro w hSw
      (try dsimp only at hSw)
      first | (go_simp; done) | (go_simp; with_reducible rfl) | with_reducible rfl
    simp only [Act.put, List.setIfInBounds_toArray, List.set_cons_zero, List.set_cons_succ]
    refine tk (v := ?_) 1 ?_ ?_
    rotate_left
    · intro w hSw
      (try dsimp only at hSw)
      first | (go_simp; done) | (go_simp; with_reducible rfl) | with_reducible rfl
    simp only [Act.put, List.setIfInBounds_toArray, List.set_cons_zero, List.set_cons_succ]
    refine tk (v := ?_) 2 ?_ ?_
    rotate_left
    · intro w hSw
      (try dsimp only at hSw)
      first | (go_simp; done) | (go_simp; with_reducible rfl) | with_reducible rfl
    simp only [Act.put, List.setIfInBounds_toArray, List.set_cons_zero, List.set_cons_succ]
    refine tk (v := ?_) 3 ?_ ?_
    rotate_left
    · intro w hSw
      (try dsimp only at hSw)
      first | (go_simp; done) | (go_simp; with_reducible rfl) | with_reducible rfl
    simp only [Act.put, List.setIfInBounds_toArray, List.set_cons_zero, List.set_cons_succ]
    refine tk (v := ?_) 4 ?_ ?_
    rotate_left
    · intro w hSw
      (try dsimp only at hSw)
      first | (go_simp; done) | (go_simp; with_reducible rfl) | with_reducible rfl
    simp only [Act.put, List.setIfInBounds_toArray, List.set_cons_zero, List.set_cons_succ]
    refine tk (v := ?_) 5 ?_ ?_
    rotate_left
    · intro w hSw
      (try dsimp only at hSw)
      first | (go_simp; done) | (go_simp; with_reducible rfl) | with_reducible rfl
    simp only [Act.put, List.setIfInBounds_toArray, List.set_cons_zero, List.set_cons_succ]
    refine tk (v := ?_) 6 ?_ ?_
    rotate_left
    · intro w hSw
      (try dsimp only at hSw)
      first | (go_simp; done) | (go_simp; with_reducible rfl) | with_reducible rfl
    simp only [Act.put, List.setIfInBounds_toArray, List.set_cons_zero, List.set_cons_succ]
    refine tk (v := ?_) 7 ?_ ?_
    rotate_left
    · intro w hSw
      (try dsimp only at hSw)
      first | (go_simp; done) | (go_simp; with_reducible rfl) | with_reducible rfl
    simp only [Act.put, List.setIfInBounds_toArray, List.set_cons_zero, List.set_cons_succ]
    refine wpAnyH_done (by kernel_rfl) ?_ _
    have lk := ((HC.out W4 N4.out).hears.new ((Mod.refl _ _).drew.drew)).look ip
    have k6 : W4.cell? ⟨B, 6, none⟩ = some (.int .i64 c.min) := (HC.out W4 N4.out).row.cellv 6 rfl
    have k7 : W4.cell? ⟨B, 7, none⟩ = some (.map (some H)) := (HC.out W4 N4.out).row.cellv 7 rfl
    have b1 : W4.cell? ⟨w.heap.size, 1, none⟩ = some (.string ip) := B6c.out.cellv 1 rfl
    go_wp2_with fail
    rw [← hG2.out] at lk
    refine wp_region_held_drew (S := (fun w' => w'.cell? ⟨B, 6, none⟩ = some (.int .i64 c.min) ∧ w'.cell? ⟨B, 7, none⟩ = some (.map (some H)) ∧ w'.cell? ⟨w.heap.size, 1, none⟩ = some (.string ip) ∧ (Instr.lookup 60 (.map (some H)) (.string ip) false).run Tryz.prog w' = .ok (.int .i64 G) w')) (by kernel_rfl) ⟨k6, k7, b1, lk⟩ (fun hHeld => ?_)
    refine tk (v := ?_) 0 ?_ ?_
    rotate_left
    · intro w hSw
      (try dsimp only at hSw)
      first | (go_simp; done) | (go_simp; with_reducible rfl) | with_reducible rfl
    simp only [Act.put, List.setIfInBounds_toArray, List.set_cons_zero, List.set_cons_succ]
    refine tk (v := ?_) 1 ?_ ?_
    rotate_left
    · intro w hSw
      (try dsimp only at hSw)
      first | (go_simp; done) | (go_simp; with_reducible rfl) | with_reducible rfl
    simp only [Act.put, List.setIfInBounds_toArray, List.set_cons_zero, List.set_cons_succ]
    refine tk (v := ?_) 2 ?_ ?_
    rotate_left
    · intro w hSw
      (try dsimp only at hSw)
      first | (go_simp; done) | (go_simp; with_reducible rfl) | with_reducible rfl
    simp only [Act.put, List.setIfInBounds_toArray, List.set_cons_zero, List.set_cons_succ]
    refine tk (v := ?_) 3 ?_ ?_
    rotate_left
    · intro w hSw
      (try dsimp only at hSw)
      first | (go_simp; done) | (go_simp; with_reducible rfl) | with_reducible rfl
    simp only [Act.put, List.setIfInBounds_toArray, List.set_cons_zero, List.set_cons_succ]
    refine tk (v := ?_) 4 ?_ ?_
    rotate_left
    · intro w hSw
      (try dsimp only at hSw)
      first | (go_simp; done) | (go_simp; with_reducible rfl) | with_reducible rfl
    simp only [Act.put, List.setIfInBounds_toArray, List.set_cons_zero, List.set_cons_succ]
    refine tk (v := ?_) 5 ?_ ?_
    rotate_left
    · intro w hSw
      (try dsimp only at hSw)
      first | (go_simp; done) | (go_simp; with_reducible rfl) | with_reducible rfl
    simp only [Act.put, List.setIfInBounds_toArray, List.set_cons_zero, List.set_cons_succ]
    refine tk (v := ?_) 6 ?_ ?_
    rotate_left
    · intro w hSw
      (try dsimp only at hSw)
      first | (go_simp; done) | (go_simp; with_reducible rfl) | with_reducible rfl
    simp only [Act.put, List.setIfInBounds_toArray, List.set_cons_zero, List.set_cons_succ]
    refine tk (v := ?_) 7 ?_ ?_
    rotate_left
    · intro w hSw
      (try dsimp only at hSw)
      first | (go_simp; done) | (go_simp; with_reducible rfl) | with_reducible rfl
    simp only [Act.put, List.setIfInBounds_toArray, List.set_cons_zero, List.set_cons_succ]
    refine tk (v := ?_) 8 ?_ ?_
    rotate_left
    · intro w hSw
      (try dsimp only at hSw)
      first | (go_simp; done) | (go_simp; with_reducible rfl) | with_reducible rfl
    simp only [Act.put, List.setIfInBounds_toArray, List.set_cons_zero, List.set_cons_succ]
    refine tk (v := ?_) 9 ?_ ?_
    rotate_left
    · intro w hSw
      (try dsimp only at hSw)
      first | (go_simp; done) | (go_simp; with_reducible rfl) | with_reducible rfl
    simp only [Act.put, List.setIfInBounds_toArray, List.set_cons_zero, List.set_cons_succ]
    refine tk (v := ?_) 10 ?_ ?_
    rotate_left
    · intro w hSw
      (try dsimp only at hSw)
      first | (go_simp; done) | (go_simp; with_reducible rfl) | with_reducible rfl
    simp only [Act.put, List.setIfInBounds_toArray, List.set_cons_zero, List.set_cons_succ]
    refine tk (v := ?_) 11 ?_ ?_
    rotate_left
    · intro w hSw
      (try dsimp only at hSw)
      first | (go_simp; done) | (go_simp; with_reducible rfl) | with_reducible rfl
    simp only [Act.put, List.setIfInBounds_toArray, List.set_cons_zero, List.set_cons_succ]
    refine tk (v := ?_) 12 ?_ ?_
    rotate_left
    · intro w hSw
      (try dsimp only at hSw)
      first | (go_simp; done) | (go_simp; with_reducible rfl) | with_reducible rfl
    simp only [Act.put, List.setIfInBounds_toArray, List.set_cons_zero, List.set_cons_succ]
    refine tk (v := ?_) 13 ?_ ?_
    rotate_left
    · intro w hSw
      (try dsimp only at hSw)
      first | (go_simp; done) | (go_simp; with_reducible rfl) | with_reducible rfl
    simp only [Act.put, List.setIfInBounds_toArray, List.set_cons_zero, List.set_cons_succ]
    refine tk (v := ?_) 14 ?_ ?_
    rotate_left
    · intro w hSw
      (try dsimp only at hSw)
      first | (go_simp; done) | (go_simp; with_reducible rfl) | with_reducible rfl
    simp only [Act.put, List.setIfInBounds_toArray, List.set_cons_zero, List.set_cons_succ]
    refine tk (v := ?_) 15 ?_ ?_
    rotate_left
    · intro w hSw
      (try dsimp only at hSw)
      first | (go_simp; done) | (go_simp; with_reducible rfl) | with_reducible rfl
    simp only [Act.put, List.setIfInBounds_toArray, List.set_cons_zero, List.set_cons_succ]
    refine tk (v := ?_) 16 ?_ ?_
    rotate_left
    · intro w hSw
      (try dsimp only at hSw)
      first | (go_simp; done) | (go_simp; with_reducible rfl) | with_reducible rfl
    simp only [Act.put, List.setIfInBounds_toArray, List.set_cons_zero, List.set_cons_succ]
    refine tk (v := ?_) 17 ?_ ?_
    rotate_left
    · intro w hSw
      (try dsimp only at hSw)
      first | (go_simp; done) | (go_simp; with_reducible rfl) | with_reducible rfl
    simp only [Act.put, List.setIfInBounds_toArray, List.set_cons_zero, List.set_cons_succ]
    refine wpAnyH_done (by kernel_rfl) ?_ _
    go_wp2_with fail
    refine (HTN.out _ ((HC.out W4 N4.out).new (((Mod.refl _ _).drew).drew))).mono ?_
    rintro e w5 ⟨rfl, H', hc5, hH', hm5⟩
    have hm45 : Mod (fun k => k = B) W4 w5 := ((Mod.refl (fun k => k = B) W4).drew.drew).trans hm5
    have HM45 := hid hm45
    have hz5 := hm45.size
    have l4 := N4.out.size
    have HC5 := hid hc5
    obtain ⟨q1, q2, q3⟩ := hc5.apart
    have lH5 := hc5.lt.2.2
    have hHB : H' = H ∨ W4.heap.size ≤ H' := hH'
    have lt12 := Blk.lt B12.out; have z3' := z3.out
    have k7 : w5.cell? ⟨B, 7, none⟩ = some (.map (some H')) := hc5.row.cellv 7 rfl
    have b1 : w5.cell? ⟨w.heap.size, 1, none⟩ = some (.string ip) := (hm45.blk B6c.out (by omega)).cellv 1 rfl
    obtain ⟨V, hV⟩ : ∃ V, V = (c.turnC t).heard ip := ⟨_, rfl⟩
    have hVb : 0 ≤ V ∧ V ≤ 20 := by
      rw [hV]
      unfold CrV.turnC
      split
      · exact hhd ip
      · exact ⟨Int.le_refl _, by show (0 : Int) ≤ 20; decide⟩
    have lk := (hc5.hears.new ((Mod.refl _ _).drew)).look ip
    have hwV : IntKind.i64.wrap (V + 1) = V + 1 := by rw [IntKind.wrap_i64]; omega
    obtain ⟨w6, hup, hn6, hm6⟩ := (hc5.hears.new ((Mod.refl _ _).drew)).put ip (V + 1)
    rw [← hV] at lk
    have hm56 : Mod (fun k => k = H') w5 w6 := ((Mod.refl (fun k => k = H') w5).drew).trans hm6
    have hc6 : CrAt w6 B M H' (c.hearC t ip) := ⟨hm56.blk hc5.row (fun e => q2 e.symm), hc5.names.mod hm56 (fun e => q3 e.symm), by rw [hV] at hn6; exact hn6, hc5.apart⟩
    have HC6 := hid hc6
    have HM46 : Hid (Mod (fun k => k = B ∨ k = H') W4 w6) := hid ((hm45.mono (S' := fun k => k = B ∨ k = H') (fun i _ q => .inl q)).trans' hm56 (fun i _ q => .inr q))
    have kk7 : w6.cell? ⟨B, 7, none⟩ = some (.map (some H')) := hc6.row.cellv 7 rfl
    have bb1 : w6.cell? ⟨w.heap.size, 1, none⟩ = some (.string ip) := (HM46.out.blk B6c.out (by omega)).cellv 1 rfl
    clear hc5 hm45 hm5 hm6 hn6 hm56 hc6 hV hH' d2 k1 k6
    go_wp2_with fail
    refine wp_region_held_drew (S := (fun w' => w'.cell? ⟨B, 7, none⟩ = some (.map (some H')) ∧ w'.cell? ⟨w.heap.size, 1, none⟩ = some (.string ip))) (by kernel_rfl) ⟨k7, b1⟩ (fun hHeld => ?_)
    refine tk (v := ?_) 0 ?_ ?_
    rotate_left
    · intro w hSw
      (try dsimp only at hSw)
      first | (go_simp; done) | (go_simp; with_reducible rfl) | with_reducible rfl
    simp only [Act.put, List.setIfInBounds_toArray, List.set_cons_zero, List.set_cons_succ]
    refine tk (v := ?_) 1 ?_ ?_
    rotate_left
    · intro w hSw
      (try dsimp only at hSw)
      first | (go_simp; done) | (go_simp; with_reducible rfl) | with_reducible rfl
    simp only [Act.put, List.setIfInBounds_toArray, List.set_cons_zero, List.set_cons_succ]
    refine tk (v := ?_) 2 ?_ ?_
    rotate_left
    · intro w hSw
      (try dsimp only at hSw)
      first | (go_simp; done) | (go_simp; with_reducible rfl) | with_reducible rfl
    simp only [Act.put, List.setIfInBounds_toArray, List.set_cons_zero, List.set_cons_succ]
    refine tk (v := ?_) 3 ?_ ?_
    rotate_left
    · intro w hSw
      (try dsimp only at hSw)
      first | (go_simp; done) | (go_simp; with_reducible rfl) | with_reducible rfl
    simp only [Act.put, List.setIfInBounds_toArray, List.set_cons_zero, List.set_cons_succ]
    refine tk (v := ?_) 4 ?_ ?_
    rotate_left
    · intro w hSw
      (try dsimp only at hSw)
      first | (go_simp; done) | (go_simp; with_reducible rfl) | with_reducible rfl
    simp only [Act.put, List.setIfInBounds_toArray, List.set_cons_zero, List.set_cons_succ]
    refine tk (v := ?_) 5 ?_ ?_
    rotate_left
    · intro w hSw
      (try dsimp only at hSw)
      first | (go_simp; done) | (go_simp; with_reducible rfl) | with_reducible rfl
    simp only [Act.put, List.setIfInBounds_toArray, List.set_cons_zero, List.set_cons_succ]
    refine wpAnyH_ready (rs := [6]) (by kernel_rfl) (by simp) ?_
    refine AllReadyH.cons (by simp only [List.getElem?_toArray, List.getElem?_cons_succ, List.getElem?_cons_zero]; rfl) (fun K hK => ?_) AllReadyH.nil
    go_simp
    refine hK.out _ _ ⟨k7, b1⟩ (fun hHeld6 => ?_)
    clear hK K
    try simp only [Act.put, List.setIfInBounds_toArray, List.set_cons_zero, List.set_cons_succ]
    refine tk (v := ?_) 7 ?_ ?_
    rotate_left
    · intro w hSw
      (try dsimp only at hSw)
      first | (go_simp; done) | (go_simp; with_reducible rfl) | with_reducible rfl
    simp only [Act.put, List.setIfInBounds_toArray, List.set_cons_zero, List.set_cons_succ]
    refine wpAnyH_ready (rs := [8]) (by kernel_rfl) (by simp) ?_
    refine AllReadyH.cons (by simp only [List.getElem?_toArray, List.getElem?_cons_succ, List.getElem?_cons_zero]; rfl) (fun K hK => ?_) AllReadyH.nil
    go_simp
    refine hK.out _ _ ⟨kk7, bb1⟩ (fun hHeld8 => ?_)
    clear hK K
    try simp only [Act.put, List.setIfInBounds_toArray, List.set_cons_zero, List.set_cons_succ]
    refine wpAnyH_done (by kernel_rfl) ?_ _
    have S6 := hid (strs_keep S4.out HM46.out (fun b o hne hlt hcc q => by
      obtain ⟨x1, x2⟩ := no_names (HC.out W4 N4.out) hck16 hne hpn hcc
      rcases q with q | q
      · exact x1 q
      · rcases hHB with q2 | q2
        · exact x2 (by omega)
        · omega))
    have m1 : w6.cell? ⟨w3.heap.size, 1, none⟩ = some (.slice a3 m.names.length c3) := (HM46.out.blk B12.out (by omega)).cellv 1 rfl
    clear lk hup k7 b1 kk7 bb1
    go_wp2_with fail
    clear m1
    go_loopw [15, 96] (fun v i wr => ∃ (k : Nat), i = .int .i64 k ∧ k ≤ m.names.length ∧ OwnT wr w6.heap.size v ((m.names.take k).filter (inB c.all)) ∧ Mod (fun j => w6.heap.size ≤ j) w6 wr) (fun _ i _ => m.names.length - (intOf i).toNat)
    case atStart => exact ⟨0, rfl, by omega, OwnT.nil _ _, Mod.refl _ _⟩
    case round =>
      obtain ⟨k, rfl, hk, ho, hmr⟩ := hrel
      have HO := hid ho; have HMR := hid hmr
      have NMR : Hid (New w6 wr) := hid ((Mod.refl (fun _ => False) w6).trans' hmr (fun i hi q => by omega))
      have CR := hid (HC6.out.new NMR.out)
      have k4 : wr.cell? ⟨B, 4, none⟩ = some (.map (some M)) := CR.out.row.cellv 4 rfl
      have kl := CR.out.row.lt
      by_cases hlt : k < m.names.length
      · obtain ⟨bb, oo, rfl, hbb, hcc⟩ := (S6.out.new NMR.out).get (by omega)
        have g0 := hcc k hlt
        have hsm := S6.out.small m.names[k] (List.getElem_mem _)
        have hft := filter_take (p := inB c.all) hlt
        obtain ⟨nm, hnm⟩ : ∃ nm, nm = m.names[k] := ⟨_, rfl⟩
        rw [← hnm] at g0 hsm hft
        have HFT := hid hft; have HSM := hid hsm
        have lk2 : (Instr.lookup 60 (.map (some M)) (.string nm) true).run Tryz.prog wr = .ok (.tuple #[.int .i64 (c.last nm), .bool (inB c.all nm)]) wr := by
          have := CR.out.names.look2 nm
          have e1 : (c.hearC t ip).last = c.last := by unfold CrV.hearC CrV.turnC; split <;> rfl
          have e2 : (c.hearC t ip).all = c.all := by unfold CrV.hearC CrV.turnC; split <;> rfl
          rw [e1, e2] at this
          exact this
        obtain ⟨ao, co, rfl, hso, hbo⟩ := HO.out.strs
        have hco := hso.cap
        unfold maxLen at hco
        have hfl : ((m.names.take k).filter (inB c.all)).length ≤ 20 := by
          have h1 := List.length_filter_le (inB c.all) (m.names.take k)
          rw [List.length_take] at h1
          omega
        obtain ⟨L, hL⟩ : ∃ L, L = (m.names.take k).filter (inB c.all) := ⟨_, rfl⟩
        rw [← hL] at HO HFT hfl ⊢
        clear ho hmr hft hsm hcc hnm hso hbo hL
        have hz6 := NMR.out.size
        cases hin : inB c.all nm with
        | false =>
          rw [hin] at lk2 HFT
          simp only [Bool.false_eq_true, if_false, List.append_nil] at HFT
          go_wp2_with fail
          exact ⟨⟨k + 1, by simp, by omega, by rw [HFT.out]; exact HO.out, HMR.out⟩, by simp [intOf]; omega⟩
        | true =>
          rw [hin] at lk2 HFT
          simp only [if_true] at HFT
          obtain ⟨i1, hj, hy0, hy1, hy2⟩ := info_parts info_str
          go_wp2_with (at_builtin; refine wpList_append_own_at _ rfl _ _ 22 rfl w6.heap.size 9 i1 _ 1 16 Tryz.underlying22 hj hy0 hy1 hy2 rfl (by decide) (.slice ao L.length co) L.length (L.map Value.string) rfl ?ow ⟨wr.heap.size, 0, none⟩ 1 1 [.string nm] rfl rfl ?hn ?h1 ?h63 ?hby ?hba ?_)
          case ow => exact (HO.out.new ((Mod.refl _ _).alloc _)).row
          case hn =>
            intro j u hj
            rw [add_zero]
            match j, hj with
            | 0, hj => simp at hj; subst hj; exact (Blk.newAt (by simp)).cellv 0 rfl
          case h1 => intro u hu; simp at hu; subst hu; rfl
          case h63 => unfold maxLen; omega
          case hby => omega
          case hba => simp; omega
          intro o3 w7 r7 g7 _ _
          have O7 : Hid (OwnT w7 w6.heap.size o3 (L ++ [nm])) := hid (ownT_of HO.out.small HSM.out r7)
          have M7 : Hid (Mod (fun k => w6.heap.size ≤ k) wr w7) := hid (mod_grownT (HO.out.new ((Mod.refl _ _).alloc _)) (Nat.le_refl _) ((Mod.refl _ _).alloc _) g7)
          clear r7 g7
          go_wp2
          exact ⟨⟨k + 1, by simp, by omega, by rw [HFT.out]; exact O7.out, HMR.out.trans M7.out⟩, by simp [intOf]; omega⟩
      · have hkl : m.names.take k = m.names := List.take_of_length_le (by omega)
        rw [hkl] at HO
        obtain ⟨ao, co, rfl, hso, hbo⟩ := HO.out.strs
        have HSO := hid hso
        have hz46 := HM46.out.size
        have HM4r : Hid (Mod (fun k => k = B ∨ k = H' ∨ W4.heap.size ≤ k) W4 wr) := hid ((HM46.out.mono (S' := fun k => k = B ∨ k = H' ∨ W4.heap.size ≤ k) (fun i _ q => by omega)).trans' HMR.out (fun i hi q => by omega))
        have R6 := hid (HM4r.out.blk B6c.out (by omega))
        have R9 := hid (HM4r.out.blk B9c.out (by omega))
        have R12 := hid ((HMR.out.blk (HM46.out.blk B12.out (by omega)) (by omega)))
        have p0 : wr.cell? ⟨w3.heap.size, 0, none⟩ = some (.int .i64 m.port) := R12.out.cellv 0 rfl
        have u0 := R6.out.cellv 0 rfl; have u1 := R6.out.cellv 1 rfl; have u2 := R6.out.cellv 2 rfl; have ul := R6.out.lt; have uf := R6.out.frz 2
        have v0 := R9.out.cellv 0 rfl; have v1 := R9.out.cellv 1 rfl; have v2 := R9.out.cellv 2 rfl; have vl := R9.out.lt
        have x0 := R9.out.frz 0; have x1 := R9.out.frz 1; have x2 := R9.out.frz 2
        clear ho hmr hso hbo hkl
        go_wp2_with fail
        refine name_worldC (p := fun W => Code.wp _ _ _ _ W) (fun WX hWX => ?_)
        have hmX : Mod (fun k => k = w.heap.size) wr WX := by
          rw [hWX]
          exact Mod.set (S := fun k => k = w.heap.size) (Mod.refl _ _) ⟨w.heap.size, 2, none⟩ _ (.inl rfl)
        have RX6 : Hid (Blk WX w.heap.size #[.int .i64 fam, .string ip, .int .i64 m.port] 40) := hid (by rw [hWX]; exact (R6.out.set 2 _).row (by simp))
        have RX9 := hid (hmX.blk R9.out (by omega))
        have HMX := hid hmX
        clear hWX hmX u0 u1 u2 ul uf v0 v1 v2 vl x0 x1 x2 p0
        have u0 := RX6.out.cellv 0 rfl; have u1 := RX6.out.cellv 1 rfl; have u2 := RX6.out.cellv 2 rfl
        have v0 := RX9.out.cellv 0 rfl; have v1 := RX9.out.cellv 1 rfl; have v2 := RX9.out.cellv 2 rfl; have vl := RX9.out.lt
        have x0 := RX9.out.frz 0; have x1 := RX9.out.frz 1; have x2 := RX9.out.frz 2
        have sx : ∀ (i : Nat) (v a b d : Value), WX.cell? ⟨w.heap.size, i, none⟩ = some v → (((WX.drew.setCell ⟨w.heap.size + 1, 0, none⟩ a).setCell ⟨w.heap.size + 1, 1, none⟩ b).setCell ⟨w.heap.size + 1, 2, none⟩ d).cell? ⟨w.heap.size, i, none⟩ = some v := fun i v a b d hcv =>
          cell_offH (by show w.heap.size ≠ w.heap.size + 1; omega) (cell_offH (by show w.heap.size ≠ w.heap.size + 1; omega) (cell_offH (by show w.heap.size ≠ w.heap.size + 1; omega) hcv))
        refine wp_region_held_drew (S := (fun w' => w'.cell? ⟨w.heap.size, 0, none⟩ = some (.int .i64 fam) ∧ w'.cell? ⟨w.heap.size, 1, none⟩ = some (.string ip) ∧ w'.cell? ⟨w.heap.size, 2, none⟩ = some (.int .i64 m.port))) (by kernel_rfl) ⟨u0, u1, u2⟩ (fun hHeld => ?_)
        refine tk (v := ?_) 0 ?_ ?_
        rotate_left
        · intro w hSw
          (try dsimp only at hSw)
          first | (go_simp; done) | (go_simp; with_reducible rfl) | with_reducible rfl
        simp only [Act.put, List.setIfInBounds_toArray, List.set_cons_zero, List.set_cons_succ]
        refine tk (v := ?_) 1 ?_ ?_
        rotate_left
        · intro w hSw
          (try dsimp only at hSw)
          first | (go_simp; done) | (go_simp; with_reducible rfl) | with_reducible rfl
        simp only [Act.put, List.setIfInBounds_toArray, List.set_cons_zero, List.set_cons_succ]
        refine tk (v := ?_) 2 ?_ ?_
        rotate_left
        · intro w hSw
          (try dsimp only at hSw)
          first | (go_simp; done) | (go_simp; with_reducible rfl) | with_reducible rfl
        simp only [Act.put, List.setIfInBounds_toArray, List.set_cons_zero, List.set_cons_succ]
        refine wpAnyH_ready (rs := [3]) (by kernel_rfl) (by simp) ?_
        refine AllReadyH.cons (by simp only [List.getElem?_toArray, List.getElem?_cons_succ, List.getElem?_cons_zero]; rfl) (fun K hK => ?_) AllReadyH.nil
        go_simp
        refine hK.out _ _ ⟨sx 0 _ _ _ _ u0, sx 1 _ _ _ _ u1, sx 2 _ _ _ _ u2⟩ (fun hHeld3 => ?_)
        clear hK K
        try simp only [Act.put, List.setIfInBounds_toArray, List.set_cons_zero, List.set_cons_succ]
        refine tk (v := ?_) 4 ?_ ?_
        rotate_left
        · intro w hSw
          (try dsimp only at hSw)
          first | (go_simp; done) | (go_simp; with_reducible rfl) | with_reducible rfl
        simp only [Act.put, List.setIfInBounds_toArray, List.set_cons_zero, List.set_cons_succ]
        refine wpAnyH_done (by kernel_rfl) ?_ _
        go_wp2_with fail
        refine name_worldC (p := fun W => bodyPost _ _ _ _ _ W) (fun WY hWY => ?_)
        have G9 : Blk WY (w.heap.size + 1) #[.int .i64 fam, .string ip, .int .i64 m.port] 40 := by
          rw [hWY]
          exact (((RX9.out.set 0 _).set 1 _).set 2 _).row (by simp)
        have hmY : Mod (fun k => k = w.heap.size + 1) WX WY := by
          rw [hWY]
          repeat (with_reducible refine Mod.drew ?_)
          refine Mod.set (S := fun k => k = w.heap.size + 1) ?_ ⟨w.heap.size + 1, 2, none⟩ _ (.inl rfl)
          refine Mod.set (S := fun k => k = w.heap.size + 1) ?_ ⟨w.heap.size + 1, 1, none⟩ _ (.inl rfl)
          exact Mod.set (S := fun k => k = w.heap.size + 1) (Mod.refl _ _) ⟨w.heap.size + 1, 0, none⟩ _ (.inl rfl)
        have hmRY : Mod (fun k => k = w.heap.size ∨ k = w.heap.size + 1) wr WY := (HMX.out.mono (S' := fun k => k = w.heap.size ∨ k = w.heap.size + 1) (fun i _ q => .inl q)).trans' hmY (fun i _ q => .inr q)
        have g0 := G9.cellv 0 rfl; have g1 := G9.cellv 1 rfl; have g2 := G9.cellv 2 rfl
        refine bodyPost_ret (v := .tuple #[.slice ao (m.names.filter (inB c.all)).length co, .agg #[.int .i64 fam, .string ip, .int .i64 m.port], .int .i64 0]) ?_ rfl ⟨H', ao, co, rfl, ?_, ?_, ?_, ?_, ?_⟩
        · simp [results, Tryz.results14, go_sem, g0, g1, g2]
        · have hq := (HO.out.mod hmRY (fun j hj _ q => by omega)).strs
          obtain ⟨a9, c9, e9, hs9, -⟩ := hq
          injection e9 with e91 e92 e93
          subst e91 e93
          exact hs9
        · exact CR.out.mod hmRY (by omega) (by omega) (by omega)
        · rcases hHB with q | q
          · exact .inl q
          · exact .inr (by omega)
        · exact ((New.mod (S := fun k => k = B ∨ k = H) N4.out).trans' HM4r.out (fun i hi q => by omega)).trans' hmRY (fun i hi q => by omega)
        · have hq := HO.out.strs
          obtain ⟨a9, c9, e9, -, hb9⟩ := hq
          injection e9 with e91 e92 e93
          subst e91
          intro x hx
          have := (hb9 x hx).1
          omega
  · have e3 : (q == c.min) = false := by rw [beq_eq_false_iff_ne]; exact g
    clear g gf hG
    have HAV := hid (fun W => adrValid_any ⟨fam, ip, port⟩ W hs)
    simp only [ga] at HAV
    go_enter Tryz.func14, Tryz.ntmps14
    go_wp2_with fail
    refine (HAV.out _).mono ?_
    rintro e w1 ⟨rfl, n1⟩
    have B6 := hid (New.blk n1 ((Blk.new w #[.int .i64 fam, .string ip, .int .i64 port] 40).alloc (.cells #[.int .i64 0, .string ⟨#[]⟩, .int .i64 0] 40)))
    have B9 := hid (New.blk n1 (Blk.newAt (w := w.alloc (.cells #[.int .i64 fam, .string ip, .int .i64 port] 40)) (b := w.heap.size + 1) (cs := #[.int .i64 0, .string ⟨#[]⟩, .int .i64 0]) (t := 40) (by simp)))
    have N1 := hid ((((Mod.refl (fun _ => False) w).alloc _).alloc _).trans n1)
    clear n1
    go_wp2_with fail
    refine (HAT.out _ N1.out).mono ?_
    rintro e w2 ⟨rfl, rfl⟩
    go_wp2_with fail
    refine (HPS.out _ N1.out).mono ?_
    rintro e w3 ⟨a3, c3, rfl, s3, n3⟩
    have hz13 := n3.size
    have N3 := hid (N1.out.trans n3)
    have S3 := hid s3
    have B9b := hid ((New.blk n3 B9.out).alloc (.cells #[.int .i64 m.port, .slice a3 m.names.length c3, .string m.cookie] 34))
    have B6b := hid ((New.blk n3 B6.out).alloc (.cells #[.int .i64 m.port, .slice a3 m.names.length c3, .string m.cookie] 34))
    clear s3 n3
    go_wp2_with fail
    refine name_worldC (p := fun W => Code.wp _ _ _ _ W) (fun W4 hW4 => ?_)
    have B12 : Hid (Blk W4 w3.heap.size #[.int .i64 m.port, .slice a3 m.names.length c3, .string m.cookie] 34) := hid (by rw [hW4]; exact Blk.new w3 _ _)
    have B9c : Hid (Blk W4 (w.heap.size + 1) #[.int .i64 0, .string ⟨#[]⟩, .int .i64 0] 40) := hid (by rw [hW4]; exact B9b.out)
    have B6c : Hid (Blk W4 w.heap.size #[.int .i64 fam, .string ip, .int .i64 port] 40) := hid (by rw [hW4]; exact B6b.out)
    have N4 : Hid (New w W4) := hid (by rw [hW4]; exact N3.out.alloc _)
    have S4 : Hid (StrsAt W4 a3 c3 m.names) := hid (by rw [hW4]; exact S3.out.new ((Mod.refl _ _).alloc _))
    have z3 : Hid (w.heap.size + 2 ≤ w3.heap.size) := hid (by have := B9.out.lt; omega)
    clear hW4
    have d2 : W4.cell? ⟨w3.heap.size, 2, none⟩ = some (.string m.cookie) := B12.out.cellv 2 rfl
    have k1 : W4.cell? ⟨B, 1, none⟩ = some (.string c.cookie) := (HC.out W4 N4.out).row.cellv 1 rfl
    refine wp_region_held_drew (S := (fun w' => w'.cell? ⟨w3.heap.size, 2, none⟩ = some (.string m.cookie) ∧ w'.cell? ⟨B, 1, none⟩ = some (.string c.cookie))) (by kernel_rfl) ⟨d2, k1⟩ (fun hHeld => ?_)
    refine tk (v := ?_) 0 ?_ ?_
    rotate_left
    · intro w hSw
      (try dsimp only at hSw)
      first | (go_simp; done) | (go_simp; with_reducible rfl) | with_reducible rfl
    simp only [Act.put, List.setIfInBounds_toArray, List.set_cons_zero, List.set_cons_succ]
    refine tk (v := ?_) 1 ?_ ?_
    rotate_left
    · intro w hSw
      (try dsimp only at hSw)
      first | (go_simp; done) | (go_simp; with_reducible rfl) | with_reducible rfl
    simp only [Act.put, List.setIfInBounds_toArray, List.set_cons_zero, List.set_cons_succ]
    refine tk (v := ?_) 2 ?_ ?_
    rotate_left
    · intro w hSw
      (try dsimp only at hSw)
      first | (go_simp; done) | (go_simp; with_reducible rfl) | with_reducible rfl
    simp only [Act.put, List.setIfInBounds_toArray, List.set_cons_zero, List.set_cons_succ]
    refine tk (v := ?_) 3 ?_ ?_
    rotate_left
    · intro w hSw
      (try dsimp only at hSw)
      first | (go_simp; done) | (go_simp; with_reducible rfl) | with_reducible rfl
    simp only [Act.put, List.setIfInBounds_toArray, List.set_cons_zero, List.set_cons_succ]
    refine tk (v := ?_) 4 ?_ ?_
    rotate_left
    · intro w hSw
      (try dsimp only at hSw)
      first | (go_simp; done) | (go_simp; with_reducible rfl) | with_reducible rfl
    simp only [Act.put, List.setIfInBounds_toArray, List.set_cons_zero, List.set_cons_succ]
    refine tk (v := ?_) 5 ?_ ?_
    rotate_left
    · intro w hSw
      (try dsimp only at hSw)
      first | (go_simp; done) | (go_simp; with_reducible rfl) | with_reducible rfl
    simp only [Act.put, List.setIfInBounds_toArray, List.set_cons_zero, List.set_cons_succ]
    refine tk (v := ?_) 6 ?_ ?_
    rotate_left
    · intro w hSw
      (try dsimp only at hSw)
      first | (go_simp; done) | (go_simp; with_reducible rfl) | with_reducible rfl
    simp only [Act.put, List.setIfInBounds_toArray, List.set_cons_zero, List.set_cons_succ]
    refine tk (v := ?_) 7 ?_ ?_
    rotate_left
    · intro w hSw
      (try dsimp only at hSw)
      first | (go_simp; done) | (go_simp; with_reducible rfl) | with_reducible rfl
    simp only [Act.put, List.setIfInBounds_toArray, List.set_cons_zero, List.set_cons_succ]
    refine wpAnyH_done (by kernel_rfl) ?_ _
    have lk := ((HC.out W4 N4.out).hears.new ((Mod.refl _ _).drew.drew)).look ip
    have k6 : W4.cell? ⟨B, 6, none⟩ = some (.int .i64 c.min) := (HC.out W4 N4.out).row.cellv 6 rfl
    have k7 : W4.cell? ⟨B, 7, none⟩ = some (.map (some H)) := (HC.out W4 N4.out).row.cellv 7 rfl
    have b1 : W4.cell? ⟨w.heap.size, 1, none⟩ = some (.string ip) := B6c.out.cellv 1 rfl
    go_wp2_with fail
    clear lk k7 b1
    refine wp_region_held_drew (S := (fun w' => w'.cell? ⟨B, 6, none⟩ = some (.int .i64 c.min))) (by kernel_rfl) k6 (fun hHeld => ?_)
    refine tk (v := ?_) 0 ?_ ?_
    rotate_left
    · intro w hSw
      (try dsimp only at hSw)
      first | (go_simp; done) | (go_simp; with_reducible rfl) | with_reducible rfl
    simp only [Act.put, List.setIfInBounds_toArray, List.set_cons_zero, List.set_cons_succ]
    refine tk (v := ?_) 1 ?_ ?_
    rotate_left
    · intro w hSw
      (try dsimp only at hSw)
      first | (go_simp; done) | (go_simp; with_reducible rfl) | with_reducible rfl
    simp only [Act.put, List.setIfInBounds_toArray, List.set_cons_zero, List.set_cons_succ]
    refine tk (v := ?_) 2 ?_ ?_
    rotate_left
    · intro w hSw
      (try dsimp only at hSw)
      first | (go_simp; done) | (go_simp; with_reducible rfl) | with_reducible rfl
    simp only [Act.put, List.setIfInBounds_toArray, List.set_cons_zero, List.set_cons_succ]
    refine tk (v := ?_) 3 ?_ ?_
    rotate_left
    · intro w hSw
      (try dsimp only at hSw)
      first | (go_simp; done) | (go_simp; with_reducible rfl) | with_reducible rfl
    simp only [Act.put, List.setIfInBounds_toArray, List.set_cons_zero, List.set_cons_succ]
    refine tk (v := ?_) 4 ?_ ?_
    rotate_left
    · intro w hSw
      (try dsimp only at hSw)
      first | (go_simp; done) | (go_simp; with_reducible rfl) | with_reducible rfl
    simp only [Act.put, List.setIfInBounds_toArray, List.set_cons_zero, List.set_cons_succ]
    refine tk (v := ?_) 5 ?_ ?_
    rotate_left
    · intro w hSw
      (try dsimp only at hSw)
      first | (go_simp; done) | (go_simp; with_reducible rfl) | with_reducible rfl
    simp only [Act.put, List.setIfInBounds_toArray, List.set_cons_zero, List.set_cons_succ]
    refine tk (v := ?_) 6 ?_ ?_
    rotate_left
    · intro w hSw
      (try dsimp only at hSw)
      first | (go_simp; done) | (go_simp; with_reducible rfl) | with_reducible rfl
    simp only [Act.put, List.setIfInBounds_toArray, List.set_cons_zero, List.set_cons_succ]
    refine tk (v := ?_) 7 ?_ ?_
    rotate_left
    · intro w hSw
      (try dsimp only at hSw)
      first | (go_simp; done) | (go_simp; with_reducible rfl) | with_reducible rfl
    simp only [Act.put, List.setIfInBounds_toArray, List.set_cons_zero, List.set_cons_succ]
    refine sk 8 ?_
    simp only [Act.put, List.setIfInBounds_toArray, List.set_cons_zero, List.set_cons_succ]
    refine sk 9 ?_
    simp only [Act.put, List.setIfInBounds_toArray, List.set_cons_zero, List.set_cons_succ]
    refine sk 10 ?_
    simp only [Act.put, List.setIfInBounds_toArray, List.set_cons_zero, List.set_cons_succ]
    refine sk 11 ?_
    simp only [Act.put, List.setIfInBounds_toArray, List.set_cons_zero, List.set_cons_succ]
    refine sk 12 ?_
    simp only [Act.put, List.setIfInBounds_toArray, List.set_cons_zero, List.set_cons_succ]
    refine sk 13 ?_
    simp only [Act.put, List.setIfInBounds_toArray, List.set_cons_zero, List.set_cons_succ]
    refine sk 14 ?_
    simp only [Act.put, List.setIfInBounds_toArray, List.set_cons_zero, List.set_cons_succ]
    refine sk 15 ?_
    simp only [Act.put, List.setIfInBounds_toArray, List.set_cons_zero, List.set_cons_succ]
    refine tk (v := ?_) 16 ?_ ?_
    rotate_left
    · intro w hSw
      (try dsimp only at hSw)
      first | (go_simp; done) | (go_simp; with_reducible rfl) | with_reducible rfl
    simp only [Act.put, List.setIfInBounds_toArray, List.set_cons_zero, List.set_cons_succ]
    refine tk (v := ?_) 17 ?_ ?_
    rotate_left
    · intro w hSw
      (try dsimp only at hSw)
      first | (go_simp; done) | (go_simp; with_reducible rfl) | with_reducible rfl
    simp only [Act.put, List.setIfInBounds_toArray, List.set_cons_zero, List.set_cons_succ]
    refine wpAnyH_done (by kernel_rfl) ?_ _
    go_wp2_with fail
    refine (HTN.out _ ((HC.out W4 N4.out).new (((Mod.refl _ _).drew).drew))).mono ?_
    rintro e w5 ⟨rfl, H', hc5, hH', hm5⟩
    have hm45 : Mod (fun k => k = B) W4 w5 := ((Mod.refl (fun k => k = B) W4).drew.drew).trans hm5
    have HM45 := hid hm45
    have hz5 := hm45.size
    have l4 := N4.out.size
    have HC5 := hid hc5
    obtain ⟨q1, q2, q3⟩ := hc5.apart
    have lH5 := hc5.lt.2.2
    have hHB : H' = H ∨ W4.heap.size ≤ H' := hH'
    have lt12 := Blk.lt B12.out; have z3' := z3.out
    have k7 : w5.cell? ⟨B, 7, none⟩ = some (.map (some H')) := hc5.row.cellv 7 rfl
    have b1 : w5.cell? ⟨w.heap.size, 1, none⟩ = some (.string ip) := (hm45.blk B6c.out (by omega)).cellv 1 rfl
    obtain ⟨V, hV⟩ : ∃ V, V = (c.turnC t).heard ip := ⟨_, rfl⟩
    have hVb : 0 ≤ V ∧ V ≤ 20 := by
      rw [hV]
      unfold CrV.turnC
      split
      · exact hhd ip
      · exact ⟨Int.le_refl _, by show (0 : Int) ≤ 20; decide⟩
    have lk := (hc5.hears.new ((Mod.refl _ _).drew)).look ip
    have hwV : IntKind.i64.wrap (V + 1) = V + 1 := by rw [IntKind.wrap_i64]; omega
    obtain ⟨w6, hup, hn6, hm6⟩ := (hc5.hears.new ((Mod.refl _ _).drew)).put ip (V + 1)
    rw [← hV] at lk
    have hm56 : Mod (fun k => k = H') w5 w6 := ((Mod.refl (fun k => k = H') w5).drew).trans hm6
    have hc6 : CrAt w6 B M H' (c.hearC t ip) := ⟨hm56.blk hc5.row (fun e => q2 e.symm), hc5.names.mod hm56 (fun e => q3 e.symm), by rw [hV] at hn6; exact hn6, hc5.apart⟩
    have HC6 := hid hc6
    have HM46 : Hid (Mod (fun k => k = B ∨ k = H') W4 w6) := hid ((hm45.mono (S' := fun k => k = B ∨ k = H') (fun i _ q => .inl q)).trans' hm56 (fun i _ q => .inr q))
    have kk7 : w6.cell? ⟨B, 7, none⟩ = some (.map (some H')) := hc6.row.cellv 7 rfl
    have bb1 : w6.cell? ⟨w.heap.size, 1, none⟩ = some (.string ip) := (HM46.out.blk B6c.out (by omega)).cellv 1 rfl
    clear hc5 hm45 hm5 hm6 hn6 hm56 hc6 hV hH' d2 k1 k6
    go_wp2_with fail
    refine wp_region_held_drew (S := (fun w' => w'.cell? ⟨B, 7, none⟩ = some (.map (some H')) ∧ w'.cell? ⟨w.heap.size, 1, none⟩ = some (.string ip))) (by kernel_rfl) ⟨k7, b1⟩ (fun hHeld => ?_)
    refine tk (v := ?_) 0 ?_ ?_
    rotate_left
    · intro w hSw
      (try dsimp only at hSw)
      first | (go_simp; done) | (go_simp; with_reducible rfl) | with_reducible rfl
    simp only [Act.put, List.setIfInBounds_toArray, List.set_cons_zero, List.set_cons_succ]
    refine tk (v := ?_) 1 ?_ ?_
    rotate_left
    · intro w hSw
      (try dsimp only at hSw)
      first | (go_simp; done) | (go_simp; with_reducible rfl) | with_reducible rfl
    simp only [Act.put, List.setIfInBounds_toArray, List.set_cons_zero, List.set_cons_succ]
    refine tk (v := ?_) 2 ?_ ?_
    rotate_left
    · intro w hSw
      (try dsimp only at hSw)
      first | (go_simp; done) | (go_simp; with_reducible rfl) | with_reducible rfl
    simp only [Act.put, List.setIfInBounds_toArray, List.set_cons_zero, List.set_cons_succ]
    refine tk (v := ?_) 3 ?_ ?_
    rotate_left
    · intro w hSw
      (try dsimp only at hSw)
      first | (go_simp; done) | (go_simp; with_reducible rfl) | with_reducible rfl
    simp only [Act.put, List.setIfInBounds_toArray, List.set_cons_zero, List.set_cons_succ]
    refine tk (v := ?_) 4 ?_ ?_
    rotate_left
    · intro w hSw
      (try dsimp only at hSw)
      first | (go_simp; done) | (go_simp; with_reducible rfl) | with_reducible rfl
    simp only [Act.put, List.setIfInBounds_toArray, List.set_cons_zero, List.set_cons_succ]
    refine tk (v := ?_) 5 ?_ ?_
    rotate_left
    · intro w hSw
      (try dsimp only at hSw)
      first | (go_simp; done) | (go_simp; with_reducible rfl) | with_reducible rfl
    simp only [Act.put, List.setIfInBounds_toArray, List.set_cons_zero, List.set_cons_succ]
    refine wpAnyH_ready (rs := [6]) (by kernel_rfl) (by simp) ?_
    refine AllReadyH.cons (by simp only [List.getElem?_toArray, List.getElem?_cons_succ, List.getElem?_cons_zero]; rfl) (fun K hK => ?_) AllReadyH.nil
    go_simp
    refine hK.out _ _ ⟨k7, b1⟩ (fun hHeld6 => ?_)
    clear hK K
    try simp only [Act.put, List.setIfInBounds_toArray, List.set_cons_zero, List.set_cons_succ]
    refine tk (v := ?_) 7 ?_ ?_
    rotate_left
    · intro w hSw
      (try dsimp only at hSw)
      first | (go_simp; done) | (go_simp; with_reducible rfl) | with_reducible rfl
    simp only [Act.put, List.setIfInBounds_toArray, List.set_cons_zero, List.set_cons_succ]
    refine wpAnyH_ready (rs := [8]) (by kernel_rfl) (by simp) ?_
    refine AllReadyH.cons (by simp only [List.getElem?_toArray, List.getElem?_cons_succ, List.getElem?_cons_zero]; rfl) (fun K hK => ?_) AllReadyH.nil
    go_simp
    refine hK.out _ _ ⟨kk7, bb1⟩ (fun hHeld8 => ?_)
    clear hK K
    try simp only [Act.put, List.setIfInBounds_toArray, List.set_cons_zero, List.set_cons_succ]
    refine wpAnyH_done (by kernel_rfl) ?_ _
    have S6 := hid (strs_keep S4.out HM46.out (fun b o hne hlt hcc q => by
      obtain ⟨x1, x2⟩ := no_names (HC.out W4 N4.out) hck16 hne hpn hcc
      rcases q with q | q
      · exact x1 q
      · rcases hHB with q2 | q2
        · exact x2 (by omega)
        · omega))
    have m1 : w6.cell? ⟨w3.heap.size, 1, none⟩ = some (.slice a3 m.names.length c3) := (HM46.out.blk B12.out (by omega)).cellv 1 rfl
    clear lk hup k7 b1 kk7 bb1
    go_wp2_with fail
    clear m1
    go_loopw [15, 96] (fun v i wr => ∃ (k : Nat), i = .int .i64 k ∧ k ≤ m.names.length ∧ OwnT wr w6.heap.size v ((m.names.take k).filter (inB c.all)) ∧ Mod (fun j => w6.heap.size ≤ j) w6 wr) (fun _ i _ => m.names.length - (intOf i).toNat)
    case atStart => exact ⟨0, rfl, by omega, OwnT.nil _ _, Mod.refl _ _⟩
    case round =>
      obtain ⟨k, rfl, hk, ho, hmr⟩ := hrel
      have HO := hid ho; have HMR := hid hmr
      have NMR : Hid (New w6 wr) := hid ((Mod.refl (fun _ => False) w6).trans' hmr (fun i hi q => by omega))
      have CR := hid (HC6.out.new NMR.out)
      have k4 : wr.cell? ⟨B, 4, none⟩ = some (.map (some M)) := CR.out.row.cellv 4 rfl
      have kl := CR.out.row.lt
      by_cases hlt : k < m.names.length
      · obtain ⟨bb, oo, rfl, hbb, hcc⟩ := (S6.out.new NMR.out).get (by omega)
        have g0 := hcc k hlt
        have hsm := S6.out.small m.names[k] (List.getElem_mem _)
        have hft := filter_take (p := inB c.all) hlt
        obtain ⟨nm, hnm⟩ : ∃ nm, nm = m.names[k] := ⟨_, rfl⟩
        rw [← hnm] at g0 hsm hft
        have HFT := hid hft; have HSM := hid hsm
        have lk2 : (Instr.lookup 60 (.map (some M)) (.string nm) true).run Tryz.prog wr = .ok (.tuple #[.int .i64 (c.last nm), .bool (inB c.all nm)]) wr := by
          have := CR.out.names.look2 nm
          have e1 : (c.hearC t ip).last = c.last := by unfold CrV.hearC CrV.turnC; split <;> rfl
          have e2 : (c.hearC t ip).all = c.all := by unfold CrV.hearC CrV.turnC; split <;> rfl
          rw [e1, e2] at this
          exact this
        obtain ⟨ao, co, rfl, hso, hbo⟩ := HO.out.strs
        have hco := hso.cap
        unfold maxLen at hco
        have hfl : ((m.names.take k).filter (inB c.all)).length ≤ 20 := by
          have h1 := List.length_filter_le (inB c.all) (m.names.take k)
          rw [List.length_take] at h1
          omega
        obtain ⟨L, hL⟩ : ∃ L, L = (m.names.take k).filter (inB c.all) := ⟨_, rfl⟩
        rw [← hL] at HO HFT hfl ⊢
        clear ho hmr hft hsm hcc hnm hso hbo hL
        have hz6 := NMR.out.size
        cases hin : inB c.all nm with
        | false =>
          rw [hin] at lk2 HFT
          simp only [Bool.false_eq_true, if_false, List.append_nil] at HFT
          go_wp2_with fail
          exact ⟨⟨k + 1, by simp, by omega, by rw [HFT.out]; exact HO.out, HMR.out⟩, by simp [intOf]; omega⟩
        | true =>
          rw [hin] at lk2 HFT
          simp only [if_true] at HFT
          obtain ⟨i1, hj, hy0, hy1, hy2⟩ := info_parts info_str
          go_wp2_with (at_builtin; refine wpList_append_own_at _ rfl _ _ 22 rfl w6.heap.size 9 i1 _ 1 16 Tryz.underlying22 hj hy0 hy1 hy2 rfl (by decide) (.slice ao L.length co) L.length (L.map Value.string) rfl ?ow ⟨wr.heap.size, 0, none⟩ 1 1 [.string nm] rfl rfl ?hn ?h1 ?h63 ?hby ?hba ?_)
          case ow => exact (HO.out.new ((Mod.refl _ _).alloc _)).row
          case hn =>
            intro j u hj
            rw [add_zero]
            match j, hj with
            | 0, hj => simp at hj; subst hj; exact (Blk.newAt (by simp)).cellv 0 rfl
          case h1 => intro u hu; simp at hu; subst hu; rfl
          case h63 => unfold maxLen; omega
          case hby => omega
          case hba => simp; omega
          intro o3 w7 r7 g7 _ _
          have O7 : Hid (OwnT w7 w6.heap.size o3 (L ++ [nm])) := hid (ownT_of HO.out.small HSM.out r7)
          have M7 : Hid (Mod (fun k => w6.heap.size ≤ k) wr w7) := hid (mod_grownT (HO.out.new ((Mod.refl _ _).alloc _)) (Nat.le_refl _) ((Mod.refl _ _).alloc _) g7)
          clear r7 g7
          go_wp2
          exact ⟨⟨k + 1, by simp, by omega, by rw [HFT.out]; exact O7.out, HMR.out.trans M7.out⟩, by simp [intOf]; omega⟩
      · have hkl : m.names.take k = m.names := List.take_of_length_le (by omega)
        rw [hkl] at HO
        obtain ⟨ao, co, rfl, hso, hbo⟩ := HO.out.strs
        have HSO := hid hso
        have hz46 := HM46.out.size
        have HM4r : Hid (Mod (fun k => k = B ∨ k = H' ∨ W4.heap.size ≤ k) W4 wr) := hid ((HM46.out.mono (S' := fun k => k = B ∨ k = H' ∨ W4.heap.size ≤ k) (fun i _ q => by omega)).trans' HMR.out (fun i hi q => by omega))
        have R6 := hid (HM4r.out.blk B6c.out (by omega))
        have R9 := hid (HM4r.out.blk B9c.out (by omega))
        have R12 := hid ((HMR.out.blk (HM46.out.blk B12.out (by omega)) (by omega)))
        have p0 : wr.cell? ⟨w3.heap.size, 0, none⟩ = some (.int .i64 m.port) := R12.out.cellv 0 rfl
        have u0 := R6.out.cellv 0 rfl; have u1 := R6.out.cellv 1 rfl; have u2 := R6.out.cellv 2 rfl; have ul := R6.out.lt; have uf := R6.out.frz 2
        have v0 := R9.out.cellv 0 rfl; have v1 := R9.out.cellv 1 rfl; have v2 := R9.out.cellv 2 rfl; have vl := R9.out.lt
        have x0 := R9.out.frz 0; have x1 := R9.out.frz 1; have x2 := R9.out.frz 2
        clear ho hmr hso hbo hkl
        go_wp2_with fail
        refine name_worldC (p := fun W => Code.wp _ _ _ _ W) (fun WX hWX => ?_)
        have hmX : Mod (fun k => k = w.heap.size) wr WX := by
          rw [hWX]
          exact Mod.set (S := fun k => k = w.heap.size) (Mod.refl _ _) ⟨w.heap.size, 2, none⟩ _ (.inl rfl)
        have RX6 : Hid (Blk WX w.heap.size #[.int .i64 fam, .string ip, .int .i64 m.port] 40) := hid (by rw [hWX]; exact (R6.out.set 2 _).row (by simp))
        have RX9 := hid (hmX.blk R9.out (by omega))
        have HMX := hid hmX
        clear hWX hmX u0 u1 u2 ul uf v0 v1 v2 vl x0 x1 x2 p0
        have u0 := RX6.out.cellv 0 rfl; have u1 := RX6.out.cellv 1 rfl; have u2 := RX6.out.cellv 2 rfl
        have v0 := RX9.out.cellv 0 rfl; have v1 := RX9.out.cellv 1 rfl; have v2 := RX9.out.cellv 2 rfl; have vl := RX9.out.lt
        have x0 := RX9.out.frz 0; have x1 := RX9.out.frz 1; have x2 := RX9.out.frz 2
        have sx : ∀ (i : Nat) (v a b d : Value), WX.cell? ⟨w.heap.size, i, none⟩ = some v → (((WX.drew.setCell ⟨w.heap.size + 1, 0, none⟩ a).setCell ⟨w.heap.size + 1, 1, none⟩ b).setCell ⟨w.heap.size + 1, 2, none⟩ d).cell? ⟨w.heap.size, i, none⟩ = some v := fun i v a b d hcv =>
          cell_offH (by show w.heap.size ≠ w.heap.size + 1; omega) (cell_offH (by show w.heap.size ≠ w.heap.size + 1; omega) (cell_offH (by show w.heap.size ≠ w.heap.size + 1; omega) hcv))
        refine wp_region_held_drew (S := (fun w' => w'.cell? ⟨w.heap.size, 0, none⟩ = some (.int .i64 fam) ∧ w'.cell? ⟨w.heap.size, 1, none⟩ = some (.string ip) ∧ w'.cell? ⟨w.heap.size, 2, none⟩ = some (.int .i64 m.port))) (by kernel_rfl) ⟨u0, u1, u2⟩ (fun hHeld => ?_)
        refine tk (v := ?_) 0 ?_ ?_
        rotate_left
        · intro w hSw
          (try dsimp only at hSw)
          first | (go_simp; done) | (go_simp; with_reducible rfl) | with_reducible rfl
        simp only [Act.put, List.setIfInBounds_toArray, List.set_cons_zero, List.set_cons_succ]
        refine tk (v := ?_) 1 ?_ ?_
        rotate_left
        · intro w hSw
          (try dsimp only at hSw)
          first | (go_simp; done) | (go_simp; with_reducible rfl) | with_reducible rfl
        simp only [Act.put, List.setIfInBounds_toArray, List.set_cons_zero, List.set_cons_succ]
        refine tk (v := ?_) 2 ?_ ?_
        rotate_left
        · intro w hSw
          (try dsimp only at hSw)
          first | (go_simp; done) | (go_simp; with_reducible rfl) | with_reducible rfl
        simp only [Act.put, List.setIfInBounds_toArray, List.set_cons_zero, List.set_cons_succ]
        refine wpAnyH_ready (rs := [3]) (by kernel_rfl) (by simp) ?_
        refine AllReadyH.cons (by simp only [List.getElem?_toArray, List.getElem?_cons_succ, List.getElem?_cons_zero]; rfl) (fun K hK => ?_) AllReadyH.nil
        go_simp
        refine hK.out _ _ ⟨sx 0 _ _ _ _ u0, sx 1 _ _ _ _ u1, sx 2 _ _ _ _ u2⟩ (fun hHeld3 => ?_)
        clear hK K
        try simp only [Act.put, List.setIfInBounds_toArray, List.set_cons_zero, List.set_cons_succ]
        refine tk (v := ?_) 4 ?_ ?_
        rotate_left
        · intro w hSw
          (try dsimp only at hSw)
          first | (go_simp; done) | (go_simp; with_reducible rfl) | with_reducible rfl
        simp only [Act.put, List.setIfInBounds_toArray, List.set_cons_zero, List.set_cons_succ]
        refine wpAnyH_done (by kernel_rfl) ?_ _
        go_wp2_with fail
        refine name_worldC (p := fun W => bodyPost _ _ _ _ _ W) (fun WY hWY => ?_)
        have G9 : Blk WY (w.heap.size + 1) #[.int .i64 fam, .string ip, .int .i64 m.port] 40 := by
          rw [hWY]
          exact (((RX9.out.set 0 _).set 1 _).set 2 _).row (by simp)
        have hmY : Mod (fun k => k = w.heap.size + 1) WX WY := by
          rw [hWY]
          repeat (with_reducible refine Mod.drew ?_)
          refine Mod.set (S := fun k => k = w.heap.size + 1) ?_ ⟨w.heap.size + 1, 2, none⟩ _ (.inl rfl)
          refine Mod.set (S := fun k => k = w.heap.size + 1) ?_ ⟨w.heap.size + 1, 1, none⟩ _ (.inl rfl)
          exact Mod.set (S := fun k => k = w.heap.size + 1) (Mod.refl _ _) ⟨w.heap.size + 1, 0, none⟩ _ (.inl rfl)
        have hmRY : Mod (fun k => k = w.heap.size ∨ k = w.heap.size + 1) wr WY := (HMX.out.mono (S' := fun k => k = w.heap.size ∨ k = w.heap.size + 1) (fun i _ q => .inl q)).trans' hmY (fun i _ q => .inr q)
        have g0 := G9.cellv 0 rfl; have g1 := G9.cellv 1 rfl; have g2 := G9.cellv 2 rfl
        refine bodyPost_ret (v := .tuple #[.slice ao (m.names.filter (inB c.all)).length co, .agg #[.int .i64 fam, .string ip, .int .i64 m.port], .int .i64 0]) ?_ rfl ⟨H', ao, co, rfl, ?_, ?_, ?_, ?_, ?_⟩
        · simp [results, Tryz.results14, go_sem, g0, g1, g2]
        · have hq := (HO.out.mod hmRY (fun j hj _ q => by omega)).strs
          obtain ⟨a9, c9, e9, hs9, -⟩ := hq
          injection e9 with e91 e92 e93
          subst e91 e93
          exact hs9
        · exact CR.out.mod hmRY (by omega) (by omega) (by omega)
        · rcases hHB with q | q
          · exact .inl q
          · exact .inr (by omega)
        · exact ((New.mod (S := fun k => k = B ∨ k = H) N4.out).trans' HM4r.out (fun i hi q => by omega)).trans' hmRY (fun i hi q => by omega)
        · have hq := HO.out.strs
          obtain ⟨a9, c9, e9, -, hb9⟩ := hq
          injection e9 with e91 e92 e93
          subst e91
          intro x hx
          have := (hb9 x hx).1
          omega
end Go.Proofs.YtnflhjagmngimaaGreatDoor
