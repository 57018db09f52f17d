/-
  Several texts in one, in their build order. The walk of the reference's Same: whether two magnets are one. Condition: both magnets lie as told. Runs of a text that is no field (package bits); are runs as few as possible (package magnet: runs; the reference: only). Condition: the list lies as told.
-/
import Derived.Test.YtbgmkplpolgebaaGreatDoorM29
import Derived.Test.YtbgmkplpolgebaaGreatDoorM30
import Derived.Test.YtbgmkplpolgebaaGreatDoorM18
import Derived.Test.YtbgmkplpolgebaaGreatDoorM17
namespace Go.Proofs.YtbgmkplpolgebaaGreatDoor
set_option linter.unusedSimpArgs false
set_option linter.unusedVariables false
open Go.RowKit Go.Shelf

theorem neS {a b : ByteArray} (h : a = b) : (a.toList == b.toList) = true ∧ (a.toList != b.toList) = false := by
  subst h
  have : (a.toList == a.toList) = true := beq_self_eq_true _
  exact ⟨this, by rw [bne, this]; rfl⟩
theorem neN {a b : ByteArray} (h : ¬ a = b) : (a.toList == b.toList) = false ∧ (a.toList != b.toList) = true := by
  have : (a.toList == b.toList) = false := by rw [two_eq]; exact decide_eq_false h
  exact ⟨this, by rw [bne, this]; rfl⟩
theorem lenY {a b : Nat} (h : a = b) : ((a : Int) == (b : Int)) = true ∧ ((a : Int) != (b : Int)) = false ∧ (a == b) = true ∧ (a != b) = false := by subst h; simp
theorem lenN {a b : Nat} (h : ¬ a = b) : ((a : Int) == (b : Int)) = false ∧ ((a : Int) != (b : Int)) = true ∧ (a == b) = false ∧ (a != b) = true := by
  have h' : ¬ (a : Int) = b := by omega
  simp [h, h']
end Go.Proofs.YtbgmkplpolgebaaGreatDoor

namespace Go.Proofs.YtbgmkplpolgebaaGreatDoor
set_option linter.unusedSimpArgs false
set_option linter.unusedVariables false
open Go.RowKit Go.Shelf

set_option maxRecDepth 100000 in
set_option maxHeartbeats 1000000 in
theorem bopen_bad (a c : Nat) (w : World) (ha : w.cell? ⟨a, 0, none⟩ = some (.string ⟨#[]⟩)) (hc : 1 ≤ c) (hc2 : c ≤ maxLen) :
    Calls Tryz.prog 103 #[.int .i64 40, .slice (some ⟨a, 0, none⟩) 1 c] w fun e w' => e = .panicked (toldB 1) ∧ New w w' := by
  unfold maxLen at hc2
  have HW := hid (fun W => bwrong_size 40 ⟨#[]⟩ W (by decide) (by omega) (by show 0 ≤ maxLen; omega))
  have hal := World.block_lt_of_cell? _ _ ha
  go_enter Tryz.func103, Tryz.ntmps103
  go_wp2_with (first | (go_at_call 100; refine (bfail_pass _ _).mono ?_; rintro e w1 ⟨rfl, rfl⟩) | fail)
  refine wp_loop_rounds 1 ?_
  rw [rounds_succ]
  go_wp2_with fail
  refine (HW.out _).mono ?_
  rintro e w1 ⟨⟨x, rfl⟩, n1⟩
  have N1 := hid n1
  clear n1
  go_wp2_with fail
  refine (bfail_raise 1 _).mono ?_
  rintro e w2 ⟨rfl, rfl⟩
  go_wp2
  exact ⟨rfl, rfl, N1.out⟩
set_option maxRecDepth 100000 in
set_option maxHeartbeats 1000000 in
theorem bcaught_toldW {n : Nat} (q : Nat) (k : Int) (w : World) (hq : Blk w q #[.int .i64 0] 28) :
    CallsDIn Fence.wide n Tryz.prog 98 #[.pointer (some ⟨q, 0, none⟩)] (.panicking (toldB k)) w fun e u' w' =>
      e = .returned (.tuple #[]) ∧ u' = .panicking [{ v := .iface 172 (.int .i64 k), recovered := true }] ∧ Blk w' q #[.int .i64 k] 28 ∧ Mod (fun j => j = q) w w' := by
  obtain ⟨q1, q2, q3⟩ := hq.one
  have HQ := hid hq
  clear hq
  unfold toldB
  have hta : ∀ (x : Int) (w : World), (Instr.typeAssert (.iface 172 (.int .i64 x)) 20 172 true).run Tryz.prog w = .ok (.tuple #[.int .i64 x, .bool true]) w := fun _ _ => by simp [Instr.typeAssert, run_underlying Tryz.underlying172, Result.andThen]
  refine callsDwide_of_wpS Tryz.func98 rfl fun c₀ cs hu => ?_
  apply wpS_seq
  apply wpS_region
  simp [wpOpsS, go_sem, recoverD, hu, Tryz.ntmps98, Exit.thenS, show Array.replicate 18 undef = #[undef, undef, undef, undef, undef, undef, undef, undef, undef, undef, undef, undef, undef, undef, undef, undef, undef, undef] from rfl]
  apply wpS_seq
  refine wpS_of_wp ?_
  go_wp2
  refine wpS_cond (t := true) (by simp [Act.eval, Array.replicate]) ?_
  simp only [if_true]
  refine wpS_of_wp ?_
  go_wp2
  refine ⟨rfl, .panicking [{ v := .iface 172 (.int .i64 k), recovered := true }], ?_, .tuple #[], by simp [results, Tryz.results98], rfl, rfl, ?_, ?_⟩
  · first | rfl | (simp; done) | (cases c₀; simp_all)
  · apply Blk.row
    · repeat (first | with_reducible exact HQ.out | (with_reducible apply Blk.newAt; (simp; done)) | with_reducible apply Blk.alloc | with_reducible apply Blk.drew | with_reducible apply Blk.drewN | with_reducible apply Blk.set | (with_reducible apply Blk.other; · first | (simp; done) | (simp; omega) | omega) | (with_reducible apply Blk.putObj; · first | (simp; done) | (simp; omega) | omega))
    · rfl
  · repeat (first | with_reducible exact Mod.refl _ _ | with_reducible refine Mod.alloc ?_ _ | with_reducible refine Mod.drew ?_ | with_reducible refine Mod.drewN ?_ _ | (with_reducible refine Mod.set ?_ _ _ (by first | exact .inl rfl | (right; omega) | (right; simp; done) | (right; simp; omega) | (left; omega) | (left; simp; done) | (left; simp; omega))) | (with_reducible refine Mod.putObj ?_ _ _ (by first | exact .inl rfl | (right; omega) | (right; simp; done) | (right; simp; omega) | (left; omega) | (left; simp; done) | (left; simp; omega))))
set_option maxRecDepth 100000 in
set_option maxHeartbeats 2000000 in
theorem bRuns_bad (w : World) :
    Calls Tryz.prog 41 #[.int .i64 40, .string ⟨#[]⟩] w fun e w' => e = .returned (.tuple #[.slice none 0 0, .int .i64 1]) ∧ New w w' := by
  have HOP := hid (fun a W (q : W.cell? ⟨a, 0, none⟩ = some (.string ⟨#[]⟩)) => bopen_bad a 1 W q (Nat.le_refl _) (by unfold maxLen; omega))
  refine (callsIn_wide (n := 9)).1 ?_
  refine callsIn_of_wp_marks Tryz.func41 rfl trivial ?_ rfl
  simp only [Tryz.ntmps41, List.size_toArray, List.length_cons, List.length_nil, Nat.reduceAdd, Nat.reduceSub, Array.replicate_succ, Array.replicate_zero, List.push_toArray, List.append_toArray, List.nil_append, List.cons_append]
  gi_wp2_with fail
  refine ⟨trivial, (callsIn_wide.2 (HOP.out _ _ ((Blk.newAt (by simp)).cellv 0 rfl))).mono ?_⟩
  rintro e w1 ⟨rfl, n1⟩
  have N1 : Hid (New w w1) := hid (((((Mod.refl _ w).alloc (.cells #[.slice none 0 0] 25)).alloc (.cells #[.int .i64 0] 28)).alloc (.cells #[.string ⟨#[]⟩] 9) : New w _).trans n1)
  have R1 : Hid (Blk w1 w.heap.size #[.slice none 0 0] 25) := hid (New.blk n1 (((Blk.new _ _ _).alloc _).alloc _))
  have E1 : Hid (Blk w1 (w.heap.size + 1) #[.int .i64 0] 28) := hid (New.blk n1 ((Blk.newAt (by simp)).alloc _))
  clear n1
  gi_wp2
  refine ⟨by simp, .inr ⟨fun _ => by omega, _, _, 98, #[.pointer (some ⟨w.heap.size + 1, 0, none⟩)], rfl, by simp [go_sem], fun g _ => trivial, ?_⟩⟩
  refine CallsDIn.mono' (bcaught_toldW (w.heap.size + 1) 1 _ E1.out) ?_
  rintro e u' w9 ⟨rfl, rfl, bq, m9⟩
  have d0 := (m9.blk R1.out (by omega)).cellv 0 rfl; have d1 := bq.cellv 0 rfl
  refine ⟨.tuple #[.slice none 0 0, .int .i64 1], by simp [results, Tryz.results41, go_sem, d0, d1], rfl, N1.out.trans' m9 (fun j h1 h2 => by omega)⟩
theorem frR_nz {n : Nat} {l : List (Int × Int)} {k : Int} (h : frR n l = .error k) : k ≠ 0 := by
  unfold frR at h
  have hS : ∀ (l : List (Int × Int)) (st : Int × List UInt8) (k : Int), frS n l st = .error k → k ≠ 0 := by
    intro l
    induction l with
    | nil => intro st k h; cases h
    | cons r R ih =>
      intro st k h
      simp only [frS] at h
      cases hs : frStep n st r with
      | error k' =>
        rw [hs] at h
        injection h with h
        subst h
        unfold frStep at hs
        split at hs
        · cases hs; decide
        · split at hs
          · cases hs; decide
          · cases hs
      | ok st' => rw [hs] at h; exact ih st' k h
  cases hs : frS n l (0, zerosL n) with
  | error k' => rw [hs] at h; injection h with h; subst h; exact hS _ _ _ hs
  | ok st => rw [hs] at h; cases h
set_option maxHeartbeats 1000000 in
theorem mruns_any (a : Option Addr) (c : Nat) (l : List (Int × Int)) (w : World) (h : RnsAt w a c l) :
    Calls Tryz.prog 35 #[.slice a l.length c] w fun e w' => e = .returned (.bool (onB l)) ∧ New w w' := by
  have hm1 := h.room; have hm2 := h.cap
  unfold maxLen at hm2
  have HFR := hid (bFrom_any 40 l (.slice a l.length c) w h.runs (by omega))
  cases hf : frR 40 l with
  | error k =>
    rw [hf] at HFR
    have hk : (k == 0) = false := by rw [beq_eq_false_iff_ne]; exact frR_nz hf
    have HO := hid (show onB l = false by unfold onB; rw [hf])
    clear h hf
    go_enter Tryz.func35, Tryz.ntmps35
    go_wp2_with fail
    refine HFR.out.mono ?_
    rintro e w1 ⟨rfl, n1⟩
    have N1 := hid n1
    clear n1
    simp only [frE]
    go_wp2_with fail
    refine (bRuns_bad _).mono ?_
    rintro e w2 ⟨rfl, n2⟩
    have N2 := hid (N1.out.trans n2)
    clear n2
    go_wp2
    go_ret
    exact ⟨ret_bool HO.out.symm, N2.out⟩
  | ok f =>
    rw [hf] at HFR
    have HO := hid (show onB l = decide (runsF 40 f = l) by unfold onB; rw [hf])
    have HRN := hid (fun W => bRuns_any 40 (mkB f) W (frR_field hf) (by omega))
    rw [show (mkB f).data.toList = f from rfl] at HRN
    obtain ⟨R, hR⟩ : ∃ R, R = runsF 40 f := ⟨_, rfl⟩
    rw [← hR] at HO HRN
    have HEQ := hid (fun W a' c' (n : New w W) (k : RnsAt W a' c' R) => eqR_any a' a c' c R l W k (h.new n))
    clear hf h hR
    go_enter Tryz.func35, Tryz.ntmps35
    go_wp2_with fail
    refine HFR.out.mono ?_
    rintro e w1 ⟨rfl, n1⟩
    have N1 := hid n1
    clear n1
    simp only [frE]
    go_wp2_with fail
    refine (HRN.out _).mono ?_
    rintro e w2 ⟨v, rfl, ho, n2⟩
    obtain ⟨a', c', rfl, hr⟩ := OwnR.at2 ho
    have N2 := hid (N1.out.trans n2)
    have HR := hid hr
    clear n2 ho hr
    go_wp2_with fail
    refine (HEQ.out _ _ _ N2.out HR.out).mono ?_
    rintro e w3 ⟨rfl, n3⟩
    have N3 := hid (N2.out.trans n3)
    clear n3
    obtain ⟨B, hB⟩ : ∃ B, B = decide (R = l) := ⟨_, rfl⟩
    rw [← hB]
    have HB := hid hB
    clear hB
    go_wp2
    go_ret
    exact ⟨ret_bool (by rw [HO.out, HB.out]), N3.out⟩
set_option maxHeartbeats 1000000 in
theorem ronly_any (a : Option Addr) (c : Nat) (l : List (Int × Int)) (w : World) (h : RnsAt w a c l) :
    Calls Tryz.prog 63 #[.slice a l.length c] w fun e w' => e = .returned (.bool (onB l)) ∧ New w w' := by
  have hm1 := h.room; have hm2 := h.cap
  unfold maxLen at hm2
  have HFR := hid (rFrom_any 40 l (.slice a l.length c) w h.runs (by omega))
  cases hf : frR 40 l with
  | error k =>
    rw [hf] at HFR
    have hk : (k == 0) = false := by rw [beq_eq_false_iff_ne]; exact frR_nz hf
    have HO := hid (show onB l = false by unfold onB; rw [hf])
    clear h hf
    go_enter Tryz.func63, Tryz.ntmps63
    go_wp2_with fail
    refine HFR.out.mono ?_
    rintro e w1 ⟨rfl, n1⟩
    have N1 := hid n1
    clear n1
    simp only [frE]
    go_wp2
    go_ret
    exact ⟨ret_bool HO.out.symm, N1.out⟩
  | ok f =>
    rw [hf] at HFR
    have HO := hid (onB_len hf)
    have HRN := hid (fun W => rRuns_any 40 (mkB f) W (frR_field hf) (by omega))
    rw [show (mkB f).data.toList = f from rfl] at HRN
    obtain ⟨R, hR⟩ : ∃ R, R = runsF 40 f := ⟨_, rfl⟩
    rw [← hR] at HO HRN
    clear hf h hR
    go_enter Tryz.func63, Tryz.ntmps63
    go_wp2_with fail
    refine HFR.out.mono ?_
    rintro e w1 ⟨rfl, n1⟩
    have N1 := hid n1
    clear n1
    simp only [frE]
    go_wp2_with fail
    refine (HRN.out _).mono ?_
    rintro e w2 ⟨v, rfl, ho, n2⟩
    obtain ⟨a', c', rfl, hr⟩ := OwnR.at2 ho
    have N2 := hid (N1.out.trans n2)
    have r1 := hr.room; have r2 := hr.cap
    unfold maxLen at r2
    clear n2 ho hr
    by_cases he : R.length = l.length
    · obtain ⟨b1, b2, b3, b4⟩ := lenY he
      have HOK := hid (show onB l = true by rw [← HO.out]; exact decide_eq_true he)
      clear he
      go_wp2
      go_ret
      exact ⟨ret_bool HOK.out.symm, N2.out⟩
    · obtain ⟨b1, b2, b3, b4⟩ := lenN he
      have HOK := hid (show onB l = false by rw [← HO.out]; exact decide_eq_false he)
      go_wp2
      go_ret
      exact ⟨ret_bool HOK.out.symm, N2.out⟩
set_option maxHeartbeats 1000000 in
theorem rbound_any (a : Option Addr) (c : Nat) (p : List ByteArray) (w : World) (h : StrsAt w a c p) :
    Calls Tryz.prog 62 #[.slice a p.length c] w fun e w' => e = .returned (.bool (decide (p.length ≤ 10) && p.all textM)) ∧ New w w' := by
  have hm1 := h.room; have hm2 := h.cap
  unfold maxLen at hm2
  obtain ⟨R, hR⟩ : ∃ R, R = (decide (p.length ≤ 10) && p.all textM) := ⟨_, rfl⟩
  rw [← hR]
  have HR := hid hR
  clear hR
  by_cases hz : 0 < p.length
  · obtain ⟨b1, o1, rfl, hb1, hc1⟩ := h.get hz
    have HS := hid h.small
    have HC1 := hid hc1
    clear h hc1
    go_enter Tryz.func62, Tryz.ntmps62
    go_wp2
    go_loopw [7] (fun i wr => ∃ k : Nat, i = .int .i64 k ∧ k ≤ p.length ∧ (∀ (j : Nat) (hj : j < p.length), j < k → textM p[j] = true) ∧ wr = w) (fun i _ => p.length - (intOf i).toNat)
    case atStart => exact ⟨0, rfl, by omega, by intros; omega, rfl⟩
    case round =>
      obtain ⟨k, rfl, hk, hb, rfl⟩ := hrel
      have HB := hid hb
      clear hb
      by_cases hlt : k < p.length
      · have g1 := HC1.out k hlt
        have hsz := HS.out _ (List.getElem_mem hlt)
        have HNO := hid (fun he => all_not (f := textM) hlt he)
        have HYE := hid (fun (he : textM p[k] = true) (j : Nat) (hj : j < p.length) (h : j < k + 1) => show textM p[j] = true by rcases Nat.lt_succ_iff_lt_or_eq.1 h with h | h; exact HB.out j hj h; subst h; exact he)
        obtain ⟨x, hx⟩ : ∃ x, x = p[k] := ⟨_, rfl⟩
        rw [← hx] at g1 HNO HYE hsz
        unfold maxLen at hsz
        have hl : x.data.toList.length = x.size := by rw [Array.length_toList]; rfl
        clear hx
        by_cases h0 : x.size = 0
        · have hx0 : x.data.toList = [] := List.eq_nil_of_length_eq_zero (by omega)
          have e1 : (x.toList == []) = true := by rw [beq_iff_eq, ByteArray.toList_eq]; exact hx0
          have e2 : x.toList.isEmpty = true := by rw [ByteArray.toList_eq, hx0]; rfl
          have HRN := hid (show R = false by rw [HR.out, HNO.out (by unfold textM; rw [show decide (1 ≤ x.size) = false from decide_eq_false (by omega)]; rfl), Bool.and_false])
          clear hx0 h0 hl
          go_wp2
          go_ret
          exact ⟨ret_bool HRN.out.symm, Mod.refl _ _⟩
        · have hx0 : x.data.toList ≠ [] := fun e => by rw [e] at hl; exact h0 hl.symm
          have e1 : (x.toList == []) = false := by rw [beq_eq_false_iff_ne, ByteArray.toList_eq]; exact hx0
          have e2 : x.toList.isEmpty = false := by
            rw [ByteArray.toList_eq]
            cases hq : x.data.toList with
            | nil => exact absurd hq hx0
            | cons a b => rfl
          by_cases h2 : 200 < x.size
          · have hI : (200 : Int) < (x.size : Int) := by omega
            have HRN := hid (show R = false by rw [HR.out, HNO.out (by unfold textM; rw [show decide (x.size ≤ 200) = false from decide_eq_false (by omega), Bool.and_false]), Bool.and_false])
            clear hx0 h0 hl h2
            go_wp2
            go_ret
            exact ⟨ret_bool HRN.out.symm, Mod.refl _ _⟩
          · have hI : ¬ (200 : Int) < (x.size : Int) := by omega
            have HE := hid (HYE.out (by unfold textM; rw [show decide (1 ≤ x.size) = true from decide_eq_true (by omega), show decide (x.size ≤ 200) = true from decide_eq_true (by omega)]; rfl))
            clear hx0 h0 hl h2
            go_wp2
            exact ⟨⟨k + 1, by simp, by omega, HE.out, trivial⟩, by simp [intOf]; omega⟩
      · have HE := hid (all_upto hlt (fun j hj h => HB.out j hj h))
        by_cases h10 : p.length ≤ 10
        · have hI : (p.length : Int) ≤ 10 := by omega
          have HRN := hid (show R = true by rw [HR.out, HE.out, decide_eq_true h10]; rfl)
          clear h10
          go_wp2
          go_ret
          exact ⟨ret_bool HRN.out.symm, Mod.refl _ _⟩
        · have hI : ¬ (p.length : Int) ≤ 10 := by omega
          have HRN := hid (show R = false by rw [HR.out, decide_eq_false h10]; rfl)
          clear h10
          go_wp2
          go_ret
          exact ⟨ret_bool HRN.out.symm, Mod.refl _ _⟩
  · obtain rfl : p = [] := List.eq_nil_of_length_eq_zero (by omega)
    have HRN := hid (show R = true by rw [HR.out]; rfl)
    clear h
    go_enter Tryz.func62, Tryz.ntmps62
    go_wp2
    refine wp_loop_rounds 1 ?_
    rw [rounds_succ]
    go_wp2
    go_ret
    exact ⟨ret_bool HRN.out.symm, Mod.refl _ _⟩
end Go.Proofs.YtbgmkplpolgebaaGreatDoor
