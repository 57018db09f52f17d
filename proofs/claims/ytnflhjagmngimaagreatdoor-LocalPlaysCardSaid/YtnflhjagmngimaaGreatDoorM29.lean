/-
  Several texts in one, in their build order. The walks of the reference's Valid of addresses, Heard and When. Conditions: the crier lies as told.
-/
import Derived.Test.YtnflhjagmngimaaGreatDoorM28
import Derived.Test.YtnflhjagmngimaaGreatDoorM19
namespace Go.Proofs.YtnflhjagmngimaaGreatDoor
set_option linter.unusedSimpArgs false
set_option linter.unusedVariables false
open Go.RowKit Go.Shelf

/-- What holds of every crier of the reference. -/
structure RcOk (r : RcV) : Prop where
  now : 0 ≤ r.now ∧ r.now ≤ 1000000000
  cook : cookieOk r.cook = true ∧ r.cook.size = 16
  port : 1 ≤ r.port ∧ r.port ≤ 65535
  every : 1000 ≤ r.every ∧ r.every ≤ 1000000
  sent : 0 ≤ r.sent ∧ r.sent ≤ 1000000000
  few : r.all.length ≤ 200
  size : ∀ x ∈ r.all, x.1.size = 20
  last : ∀ x ∈ r.all, -1 ≤ x.2 ∧ x.2 ≤ 1000000000
  names : (r.all.map (·.1)).Nodup
  many : r.heard.length ≤ 1000000
set_option maxRecDepth 100000 in
set_option maxHeartbeats 2000000 in
theorem radr_any (x : AdrV) (w : World) (hs : x.ip.size ≤ maxLen) : Calls Tryz.prog 57 #[.agg #[.int .i64 x.fam, .string x.ip, .int .i64 x.port]] w fun e w' => e = .returned (.bool (adrOk x)) ∧ New w w' := by
  obtain ⟨fam, ip, port⟩ := x
  simp only at hs ⊢
  unfold maxLen at hs
  have B0 := Blk.new w #[.int .i64 fam, .string ip, .int .i64 port] 40
  have k0 := B0.cellv 0 rfl; have k1 := B0.cellv 1 rfl; have k2 := B0.cellv 2 rfl; have kl := B0.lt
  clear B0
  unfold adrOk
  simp only
  by_cases hA : fam = 4
  · have e1 : (fam == 4) = true := beq_iff_eq.2 hA
    have e3 : (fam == 6) = false := by rw [beq_eq_false_iff_ne]; omega
    rw [decide_eq_true hA, decide_eq_false (show ¬ fam = 6 by omega)]
    by_cases hB : ip.size = 4
    · have e2 : ((ip.size : Int) == 4) = true := by rw [beq_iff_eq]; omega
      rw [decide_eq_true hB]
      simp only [Bool.and_self, Bool.true_or, Bool.true_and]
      clear hA hB
      by_cases hE : 1 ≤ port
      · by_cases hF : port ≤ 65535
        · rw [decide_eq_true hE, decide_eq_true hF]
          go_enter Tryz.func57, Tryz.ntmps57
          go_wp2
          go_ret
          exact ⟨rfl, (Mod.refl _ _).alloc _⟩
        · rw [decide_eq_true hE, decide_eq_false hF]
          go_enter Tryz.func57, Tryz.ntmps57
          go_wp2
          go_ret
          exact ⟨rfl, (Mod.refl _ _).alloc _⟩
      · rw [decide_eq_false hE]
        simp only [Bool.and_false, Bool.false_and]
        go_enter Tryz.func57, Tryz.ntmps57
        go_wp2
        go_ret
        exact ⟨rfl, (Mod.refl _ _).alloc _⟩
    · have e2 : ((ip.size : Int) == 4) = false := by rw [beq_eq_false_iff_ne]; omega
      rw [decide_eq_false hB]
      simp only [Bool.and_false, Bool.false_and, Bool.or_self]
      clear hA hB
      go_enter Tryz.func57, Tryz.ntmps57
      go_wp2
      go_ret
      exact ⟨rfl, (Mod.refl _ _).alloc _⟩
  · have e1 : (fam == 4) = false := by rw [beq_eq_false_iff_ne]; exact hA
    rw [decide_eq_false hA]
    simp only [Bool.false_and, Bool.false_or]
    by_cases hC : fam = 6
    · have e3 : (fam == 6) = true := beq_iff_eq.2 hC
      rw [decide_eq_true hC]
      by_cases hB : ip.size = 16
      · have e2 : ((ip.size : Int) == 16) = true := by rw [beq_iff_eq]; omega
        rw [decide_eq_true hB]
        simp only [Bool.and_self, Bool.true_and]
        clear hA hB hC
        by_cases hE : 1 ≤ port
        · by_cases hF : port ≤ 65535
          · rw [decide_eq_true hE, decide_eq_true hF]
            go_enter Tryz.func57, Tryz.ntmps57
            go_wp2
            go_ret
            exact ⟨rfl, (Mod.refl _ _).alloc _⟩
          · rw [decide_eq_true hE, decide_eq_false hF]
            go_enter Tryz.func57, Tryz.ntmps57
            go_wp2
            go_ret
            exact ⟨rfl, (Mod.refl _ _).alloc _⟩
        · rw [decide_eq_false hE]
          simp only [Bool.and_false, Bool.false_and]
          go_enter Tryz.func57, Tryz.ntmps57
          go_wp2
          go_ret
          exact ⟨rfl, (Mod.refl _ _).alloc _⟩
      · have e2 : ((ip.size : Int) == 16) = false := by rw [beq_eq_false_iff_ne]; omega
        rw [decide_eq_false hB]
        simp only [Bool.and_false, Bool.false_and]
        clear hA hB hC
        go_enter Tryz.func57, Tryz.ntmps57
        go_wp2
        go_ret
        exact ⟨rfl, (Mod.refl _ _).alloc _⟩
    · have e3 : (fam == 6) = false := by rw [beq_eq_false_iff_ne]; exact hC
      rw [decide_eq_false hC]
      simp only [Bool.false_and]
      clear hA hC
      go_enter Tryz.func57, Tryz.ntmps57
      go_wp2
      go_ret
      exact ⟨rfl, (Mod.refl _ _).alloc _⟩
/-- What Heard answers. -/
def RcV.heardE (r : RcV) (t : Int) (x : AdrV) : Int := if adrOk x = false then 1 else r.atE t
def RcV.heardR (r : RcV) (t : Int) (x : AdrV) : Int := if r.heardE t x = 0 then (cntP r.heard x.ip (t / 60000) : Int) else 0
def RcV.at (r : RcV) (e t : Int) : RcV := if e = 0 then { r with now := t } else r
theorem heardE_bad {r : RcV} {t : Int} {x : AdrV} (h : adrOk x = false) : r.heardE t x = 1 := by unfold RcV.heardE; rw [if_pos h]
theorem heardE_ok {r : RcV} {t : Int} {x : AdrV} (h : adrOk x = true) : r.heardE t x = r.atE t := by unfold RcV.heardE; rw [if_neg (by rw [h]; decide)]
set_option maxRecDepth 100000 in
set_option maxHeartbeats 2000000 in
theorem rHeard_any (R : Nat) (aa ah : Option Addr) (ca ch : Nat) (r : RcV) (t : Int) (x : AdrV) (w : World) (h : RcAt w R aa ah ca ch r) (ho : RcOk r) (hs : x.ip.size ≤ maxLen) :
    Calls Tryz.prog 25 #[.pointer (some ⟨R, 0, none⟩), .int .i64 t, .agg #[.int .i64 x.fam, .string x.ip, .int .i64 x.port]] w fun e w' => e = .returned (.tuple #[.int .i64 (r.heardR t x), .int .i64 (r.heardE t x)]) ∧ RcAt w' R aa ah ca ch (r.at (r.heardE t x) t) ∧ Mod (· = R) w w' := by
  obtain ⟨fam, ip, port⟩ := x
  simp only at hs ⊢
  have HV := hid (fun W => radr_any ⟨fam, ip, port⟩ W hs)
  simp only at HV
  have B0 := Blk.new w #[.int .i64 fam, .string ip, .int .i64 port] 40
  have K0 := hid B0
  have k0 := B0.cellv 0 rfl; have k1 := B0.cellv 1 rfl; have k2 := B0.cellv 2 rfl; have kl := B0.lt
  have HR := hid (h.new ((Mod.refl (fun _ => False) w).alloc (.cells #[.int .i64 fam, .string ip, .int .i64 port] 40)))
  have hRl := h.row.lt
  have hlen := ho.many
  have hnow := ho.now
  clear B0 h
  have NA : Hid (New w (w.alloc (.cells #[.int .i64 fam, .string ip, .int .i64 port] 40))) := hid ((Mod.refl _ _).alloc _)
  unfold RcV.at RcV.heardR
  cases hV : adrOk ⟨fam, ip, port⟩ with
  | false =>
    rw [heardE_bad hV, if_neg (by decide), if_neg (by decide)]
    rw [hV] at HV
    clear hV
    go_enter Tryz.func25, Tryz.ntmps25
    go_wp2_with (go_at_call 57; refine (HV.out _).mono ?_; rintro e w2 ⟨rfl, n2⟩; have N2 := hid n2; clear n2)
    go_ret2
    exact ⟨rfl, HR.out.new N2.out, New.mod (NA.out.trans N2.out)⟩
  | true =>
    rw [heardE_ok hV]
    rw [hV] at HV
    clear hV
    by_cases ga : r.atE t = 0
    · rw [ga, if_pos rfl, if_pos rfl]
      have hq := hid (fun W (n : New _ W) => rat_yes R aa ah ca ch r t W (HR.out.new n) ga)
      have ht : 0 ≤ t ∧ t ≤ 1000000000 := by
        unfold RcV.atE at ga
        split at ga
        · cases ga
        · omega
      have HCN := hid (fun W (q : RcAt W R aa ah ca ch { r with now := t }) => count_any R aa ah ca ch _ ip (t / 60000) W q hlen)
      have htd : t.tdiv 60000 = t / 60000 := Int.tdiv_eq_ediv_of_nonneg ht.1
      have hwr : IntKind.i64.wrap (t / 60000) = t / 60000 := by rw [IntKind.wrap_i64]; omega
      clear ga ho
      go_enter Tryz.func25, Tryz.ntmps25
      go_wp2_with fail
      refine (HV.out _).mono ?_
      rintro e w2 ⟨rfl, n2⟩
      have N2 := hid n2
      have K2 := hid (New.blk n2 K0.out)
      clear n2 k0 k1 k2 kl
      go_wp2_with fail
      refine (hq.out _ N2.out).mono ?_
      rintro e w3 ⟨rfl, rfl⟩
      have R3 := hid ((HR.out.new N2.out).time t)
      have K3 := hid (Blk.other (p := ⟨R, 5, none⟩) (u := .int .i64 t) (show w.heap.size ≠ R by omega) K2.out)
      have M3 : Hid (Mod (· = R) w (w2.setCell ⟨R, 5, none⟩ (.int .i64 t))) := hid (Mod.set (New.mod (NA.out.trans N2.out)) _ _ (.inl rfl))
      obtain ⟨w3, hw3⟩ : ∃ w3, w3 = w2.setCell ⟨R, 5, none⟩ (.int .i64 t) := ⟨_, rfl⟩
      rw [← hw3] at R3 K3 M3 ⊢
      clear hw3
      have k1 := K3.out.cellv 1 rfl; have kl := K3.out.lt
      go_wp2_with fail
      refine (HCN.out _ R3.out).mono ?_
      rintro e w4 ⟨rfl, n4⟩
      have N4 := hid n4
      clear n4
      go_wp2_with fail
      go_ret2
      exact ⟨rfl, R3.out.new N4.out, M3.out.trans (New.mod N4.out)⟩
    · rw [if_neg ga, if_neg ga]
      have HQ := hid (fun W (n : New _ W) => rat_no R aa ah ca ch r t W (HR.out.new n) ga)
      obtain ⟨E, hE⟩ : ∃ E, E = r.atE t := ⟨_, rfl⟩
      rw [← hE] at HQ ga ⊢
      have e1 : (E == 0) = false := by rw [beq_eq_false_iff_ne]; exact ga
      have e2 : (E != 0) = true := by rw [bne, e1]; rfl
      clear ga hE ho
      go_enter Tryz.func25, Tryz.ntmps25
      go_wp2_with fail
      refine (HV.out _).mono ?_
      rintro e w2 ⟨rfl, n2⟩
      have N2 := hid n2
      clear n2 k0 k1 k2 kl
      go_wp2_with fail
      refine (HQ.out _ N2.out).mono ?_
      rintro e w3 ⟨rfl, rfl⟩
      go_wp2_with fail
      go_ret2
      exact ⟨rfl, HR.out.new N2.out, New.mod (NA.out.trans N2.out)⟩
end Go.Proofs.YtnflhjagmngimaaGreatDoor
