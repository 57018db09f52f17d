/-
  Several texts in one, in their build order. The walk of the reference's one on a line that is one, and on every line. Conditions: the text is small.
-/
import Derived.Test.YtnccfikimmolgaaGreatDoorM36
import Derived.Test.YtnccfikimmolgaaGreatDoorM37
namespace Go.Proofs.YtnccfikimmolgaaGreatDoor
set_option linter.unusedSimpArgs false
set_option linter.unusedVariables false
open Go.RowKit Go.Shelf

/-- What a line's form gives: so many digits, a blank, a number in its form. -/
theorem good_facts (U : ByteArray) (hc : condP U.data.toList = true) : ∃ (k : Nat) (hk : k < U.size), Lead U.data.toList k ∧ U[k] = 32 ∧ 0 < k ∧ canon (U.data.toList.take k) = true ∧ (U.data.toList.take k).all isDig = true ∧ cutB 32 U.data.toList = (U.data.toList.take k, U.data.toList.drop (k + 1), true) ∧ (U[0] = 48 → k = 1) ∧ (∀ (j : Nat) (hj : j < U.size), j < k → isDig U[j] = true) := by
  have hl : U.data.toList.length = U.size := by rw [Array.length_toList]; rfl
  have hg : ∀ (j : Nat) (hj : j < U.data.toList.length), U.data.toList[j] = U[j]'(by omega) := fun j hj => by
    have := byte_at' U (k := j) (by omega)
    rw [List.getElem?_eq_getElem hj] at this
    exact Option.some.inj this
  obtain ⟨k, hld⟩ := lead_ex U.data.toList
  obtain ⟨hn, h32⟩ := lead_of_cond hld hc
  have hcan := cond_at hld hn h32
  rw [hc] at hcan
  have hk0 : 0 < k := by
    rcases Nat.eq_zero_or_pos k with q | q
    · subst q
      rw [canon_zero] at hcan
      cases hcan
    · exact q
  have hct := canon_take hk0 hn
  rw [← hcan, hg 0 (by omega)] at hct
  refine ⟨k, by omega, hld, by rw [← hg k hn]; exact h32, hk0, hcan.symm, lead_all hld, lead_cut hld hn h32, fun q => ?_, fun j hj h => ?_⟩
  · rw [q] at hct
    simpa using hct.symm
  · have := hld.dig j (by omega) h
    rw [hg j (by omega)] at this
    exact this
theorem OneOut.good {w w' : World} {L : List UInt8} {y : Bool × List UInt8 × List UInt8} {pa : Option Addr} {pc : Nat} (h : lineP L = some y) (hs : StrsAt w' pa pc (pathP y.2.2)) (hf : ∀ x, pa = some x → w.heap.size ≤ x.block ∧ x.block < w'.heap.size) (hn : New w w') :
    OneOut w w' L (.returned (.tuple #[.agg #[.slice pa (pathP y.2.2).length pc, .int .i64 (lenR y.2.1), .bool y.1], .bool true])) :=
  ⟨pa, _, pc, _, _, true, rfl, by rw [h]; rfl, fun z hz => by
    rw [h] at hz
    obtain rfl := Option.some.inj hz
    exact ⟨rfl, rfl, rfl, hs, hf⟩, hn⟩
theorem lenR_digR (ds : List UInt8) : lenR ds = if digR ds < 0 then 65537 else digR ds := by
  unfold lenR digR
  by_cases h : decVal ds ≤ 65536
  · rw [if_pos h, if_pos h, if_neg (by omega)]
  · rw [if_neg h, if_neg h, if_pos (by omega)]
theorem digR_bounds (ds : List UInt8) : -1 ≤ digR ds ∧ digR ds ≤ 65536 := by
  unfold digR
  split <;> omega
set_option maxRecDepth 100000 in
set_option maxHeartbeats 4000000 in
theorem one_good (t : ByteArray) (w : World) (hs : t.size ≤ 70000) (y : Bool × List UInt8 × List UInt8) (hy : lineP t.data.toList = some y) :
    Calls Tryz.prog 48 #[.string t] w fun e w' => OneOut w w' t.data.toList e := by
  have hcy := hy
  rw [lineP_cond] at hcy
  rcases rest_cases t with ⟨hpos, h42, hpd, hrest⟩ | ⟨h42, hpd, hrest⟩
  · have hem : t.toList.isEmpty = false := (canon_cases t hpos).1
    obtain ⟨U, hU⟩ : ∃ U, U = t.extract 1 t.size := ⟨_, rfl⟩
    rw [← hU] at hrest
    have hus : U.size ≤ 70000 := by rw [hU, ByteArray.size_extract]; omega
    rw [hrest, hpd] at hcy
    have HU := hid hU
    clear hU hrest hpd
    cases hc : condP U.data.toList with
    | false => rw [hc] at hcy; cases hcy
    | true =>
      obtain ⟨m, hm, hld, h32, hm0, hcan, hall, hcut, h481, hdig⟩ := good_facts U hc
      rw [hc, if_pos rfl, hcut] at hcy
      obtain rfl := Option.some.inj hcy
      have HY := hid hy; have H32 := hid h32; have HDIG := hid hdig
      have HDG := hid (good_digits U m hus hall hcan)
      have HCT := hid (good_cut U (m + 1) hus)
      have hmI : ¬ (m : Int) = 0 := by omega
      have h0U : 0 < U.size := by omega
      have hor : ((((U[0]'h0U).toNat : Int) == 48) = true ∧ ¬ (1 : Int) < (m : Int)) ∨ (((U[0]'h0U).toNat : Int) == 48) = false := by
        by_cases h48 : U[0]'h0U = 48
        · exact .inl ⟨by rw [h48]; rfl, by have := h481 h48; omega⟩
        · refine .inr ?_
          rw [beq_eq_false_iff_ne]
          exact fun q => h48 (UInt8.toNat_inj.1 (by have : (48 : UInt8).toNat = 48 := rfl; omega))
      clear hcy hc hld h32 hcan hall hcut h481 hdig hy
      rcases hor with ⟨h48, hm1I⟩ | h48
      · have H48 := hid h48
        clear h48
        go_enter Tryz.func48, Tryz.ntmps48
        go_wp2
        rw [← HU.out]
        go_loopw [5] (fun x wr => ∃ (k : Nat), x = .int .i64 k ∧ k ≤ m ∧ Blk wr w.heap.size #[.slice none 0 0, .int .i64 0, .bool false] 51 ∧ Blk wr (w.heap.size + 1) #[.slice none 0 0, .int .i64 0, .bool true] 51 ∧ New w wr) (fun x _ => U.size - (intOf x).toNat)
        case atStart => exact ⟨0, rfl, by omega, (Blk.new w _ _).alloc _, Blk.newAt (by simp), ((Mod.refl _ _).alloc _).alloc _⟩
        case round =>
          obtain ⟨k, rfl, hk, hb0, hb1, hn⟩ := hrel
          have HN := hid hn
          have HB0 := hid hb0
          have HB1 := hid hb1
          clear hn hb0 hb1
          by_cases hlt : k < m
          · have hlt2 : k < U.size := by omega
            have hltI : (k : Int) < (U.size : Int) := by omega
            have hdk := HDIG.out k hlt2 hlt
            simp only [isDig, Bool.and_eq_true, decide_eq_true_eq] at hdk
            have hlo : (48 : Int) ≤ (U[k].toNat : Int) := by omega
            have hhi : (U[k].toNat : Int) ≤ 57 := by omega
            clear hdk
            go_wp2
            exact ⟨⟨k + 1, by simp, by omega, HB0.out, HB1.out, HN.out⟩, by simp [intOf]; omega⟩
          · obtain rfl : k = m := by omega
            have hlt2 : k < U.size := by omega
            have h32I : (U[k].toNat : Int) = 32 := by rw [H32.out]; rfl
            have hlo : (U[k].toNat : Int) < 48 := by omega
            have hkuI : ¬ (k : Int) = (U.size : Int) := by omega
            have e1 : ((k : Int) == 0) = false := by simpa using hmI
            have e2 : ((k : Int) == (U.size : Int)) = false := by simpa using hkuI
            have e3 : ((U[k].toNat : Int) != 32) = false := by rw [h32I]; rfl
            have e4 := H48.out
            have d0 := HB1.out.cellv 0 rfl; have d1 := HB1.out.cellv 1 rfl; have d2 := HB1.out.cellv 2 rfl; have d3 := HB1.out.lt; have d4 := HB1.out.frz
            go_wp2_with fail
            refine (HDG.out _).mono ?_
            rintro e w2 ⟨rfl, n2⟩
            have N2 := hid (HN.out.trans n2)
            have B20 := hid (n2.blk HB0.out); have B21 := hid (n2.blk HB1.out)
            obtain ⟨D, hD⟩ : ∃ D, D = digR (U.data.toList.take k) := ⟨_, rfl⟩
            have hlr := lenR_digR (U.data.toList.take k)
            have hdb := digR_bounds (U.data.toList.take k)
            rw [← hD] at hlr hdb
            rw [← hD]
            have HBE : Hid (w.heap.size + 1 < w2.heap.size) := hid B21.out.lt
            clear d0 d1 d2 d3 d4 n2 hD
            have d0 := B21.out.cellv 0 rfl; have d1 := B21.out.cellv 1 rfl; have d2 := B21.out.cellv 2 rfl; have d3 := B21.out.lt; have d4 := B21.out.frz
            by_cases hneg : D < 0
            · rw [if_pos hneg] at hlr
              have HLR := hid hlr
              clear hlr
              go_wp2_with fail
              refine (HCT.out _).mono ?_
              rintro e w3 ⟨pa, pc, rfl, s3, z3, n3⟩
              have B31 := hid (n3.blk (((B21.out.set 1 (.int .i64 D)).set 1 (.int .i64 65537)).row (cs' := #[.slice none 0 0, .int .i64 65537, .bool true]) rfl))
              have B30 := hid (n3.blk ((B20.out.other (by simp)).other (by simp)))
              have N3 := hid (Mod.trans ((N2.out.set _ _ (.inr (by simp))).set _ _ (.inr (by simp))) n3)
              have S3 := hid s3
              have Z3 := hid z3
              clear d0 d1 d2 d3 d4 n3 s3 z3
              have d0 := B31.out.cellv 0 rfl; have d1 := B31.out.cellv 1 rfl; have d2 := B31.out.cellv 2 rfl; have d3 := B31.out.lt; have d4 := B31.out.frz
              have g0 := B30.out.cellv 0 rfl; have g1 := B30.out.cellv 1 rfl; have g2 := B30.out.cellv 2 rfl; have g3 := B30.out.lt; have g4 := B30.out.frz
              go_wp2
              have hbe := HBE.out
              refine bodyPost_ret (v := .tuple #[.agg #[.slice pa (pathP (U.data.toList.drop (k + 1))).length pc, .int .i64 65537, .bool true], .bool true]) ?_ rfl ?_
              · rw [results_cell_tmp rfl]
                have hB := ((((B30.out.other (p := ⟨w.heap.size + 1, 0, none⟩) (u := .slice pa (pathP (U.data.toList.drop (k + 1))).length pc) (by simp)).set 0 (.slice pa (pathP (U.data.toList.drop (k + 1))).length pc)).set 1 (.int .i64 65537)).set 2 (.bool true)).row (cs' := #[.slice pa (pathP (U.data.toList.drop (k + 1))).length pc, .int .i64 65537, .bool true]) rfl
                have hld := run_loadVar_row (P := Tryz.prog) _ w.heap.size _ 51 _ (0, 0) _ hB Tryz.underlying51 rfl (by kernel_rfl)
                simp [asAddr, Result.andThen, hld]
              · have hz2 : ∀ x, pa = some x → w.heap.size + 1 < x.block ∧ x.block < w3.heap.size := fun x hx => by
                  obtain ⟨z1, z2⟩ := Z3.out x hx
                  simp at z1
                  exact ⟨by omega, z2⟩
                have hst := S3.out.mod2 (((((Mod.refl (fun b => b = w.heap.size ∨ b = w.heap.size + 1) w3).set ⟨w.heap.size + 1, 0, none⟩ (.slice pa (pathP (U.data.toList.drop (k + 1))).length pc) (.inl (.inr rfl))).set ⟨w.heap.size, 0, none⟩ (.slice pa (pathP (U.data.toList.drop (k + 1))).length pc) (.inl (.inl rfl))).set ⟨w.heap.size, 1, none⟩ (.int .i64 65537) (.inl (.inl rfl))).set ⟨w.heap.size, 2, none⟩ (.bool true) (.inl (.inl rfl))) (fun x hx => by have := hz2 x hx; omega)
                have h := OneOut.good (w := w) HY.out hst (fun x hx => ⟨by have := hz2 x hx; omega, by have := hz2 x hx; simp; omega⟩) ((((N3.out.set _ _ (.inr (by simp))).set _ _ (.inr (by simp))).set _ _ (.inr (by simp))).set _ _ (.inr (by simp)))
                simp only at h
                rw [HLR.out] at h
                exact h
            · rw [if_neg hneg] at hlr
              have HLR := hid hlr
              clear hlr
              go_wp2_with fail
              refine (HCT.out _).mono ?_
              rintro e w3 ⟨pa, pc, rfl, s3, z3, n3⟩
              have B31 := hid (n3.blk ((B21.out.set 1 (.int .i64 D)).row (cs' := #[.slice none 0 0, .int .i64 D, .bool true]) rfl))
              have B30 := hid (n3.blk (B20.out.other (by simp)))
              have N3 := hid (Mod.trans (N2.out.set _ _ (.inr (by simp))) n3)
              have S3 := hid s3
              have Z3 := hid z3
              clear d0 d1 d2 d3 d4 n3 s3 z3
              have d0 := B31.out.cellv 0 rfl; have d1 := B31.out.cellv 1 rfl; have d2 := B31.out.cellv 2 rfl; have d3 := B31.out.lt; have d4 := B31.out.frz
              have g0 := B30.out.cellv 0 rfl; have g1 := B30.out.cellv 1 rfl; have g2 := B30.out.cellv 2 rfl; have g3 := B30.out.lt; have g4 := B30.out.frz
              go_wp2
              have hbe := HBE.out
              refine bodyPost_ret (v := .tuple #[.agg #[.slice pa (pathP (U.data.toList.drop (k + 1))).length pc, .int .i64 D, .bool true], .bool true]) ?_ rfl ?_
              · rw [results_cell_tmp rfl]
                have hB := ((((B30.out.other (p := ⟨w.heap.size + 1, 0, none⟩) (u := .slice pa (pathP (U.data.toList.drop (k + 1))).length pc) (by simp)).set 0 (.slice pa (pathP (U.data.toList.drop (k + 1))).length pc)).set 1 (.int .i64 D)).set 2 (.bool true)).row (cs' := #[.slice pa (pathP (U.data.toList.drop (k + 1))).length pc, .int .i64 D, .bool true]) rfl
                have hld := run_loadVar_row (P := Tryz.prog) _ w.heap.size _ 51 _ (0, 0) _ hB Tryz.underlying51 rfl (by kernel_rfl)
                simp [asAddr, Result.andThen, hld]
              · have hz2 : ∀ x, pa = some x → w.heap.size + 1 < x.block ∧ x.block < w3.heap.size := fun x hx => by
                  obtain ⟨z1, z2⟩ := Z3.out x hx
                  simp at z1
                  exact ⟨by omega, z2⟩
                have hst := S3.out.mod2 (((((Mod.refl (fun b => b = w.heap.size ∨ b = w.heap.size + 1) w3).set ⟨w.heap.size + 1, 0, none⟩ (.slice pa (pathP (U.data.toList.drop (k + 1))).length pc) (.inl (.inr rfl))).set ⟨w.heap.size, 0, none⟩ (.slice pa (pathP (U.data.toList.drop (k + 1))).length pc) (.inl (.inl rfl))).set ⟨w.heap.size, 1, none⟩ (.int .i64 D) (.inl (.inl rfl))).set ⟨w.heap.size, 2, none⟩ (.bool true) (.inl (.inl rfl))) (fun x hx => by have := hz2 x hx; omega)
                have h := OneOut.good (w := w) HY.out hst (fun x hx => ⟨by have := hz2 x hx; omega, by have := hz2 x hx; simp; omega⟩) ((((N3.out.set _ _ (.inr (by simp))).set _ _ (.inr (by simp))).set _ _ (.inr (by simp))).set _ _ (.inr (by simp)))
                simp only at h
                rw [HLR.out] at h
                exact h
      · have H48 := hid h48
        clear h48
        go_enter Tryz.func48, Tryz.ntmps48
        go_wp2
        rw [← HU.out]
        go_loopw [5] (fun x wr => ∃ (k : Nat), x = .int .i64 k ∧ k ≤ m ∧ Blk wr w.heap.size #[.slice none 0 0, .int .i64 0, .bool false] 51 ∧ Blk wr (w.heap.size + 1) #[.slice none 0 0, .int .i64 0, .bool true] 51 ∧ New w wr) (fun x _ => U.size - (intOf x).toNat)
        case atStart => exact ⟨0, rfl, by omega, (Blk.new w _ _).alloc _, Blk.newAt (by simp), ((Mod.refl _ _).alloc _).alloc _⟩
        case round =>
          obtain ⟨k, rfl, hk, hb0, hb1, hn⟩ := hrel
          have HN := hid hn
          have HB0 := hid hb0
          have HB1 := hid hb1
          clear hn hb0 hb1
          by_cases hlt : k < m
          · have hlt2 : k < U.size := by omega
            have hltI : (k : Int) < (U.size : Int) := by omega
            have hdk := HDIG.out k hlt2 hlt
            simp only [isDig, Bool.and_eq_true, decide_eq_true_eq] at hdk
            have hlo : (48 : Int) ≤ (U[k].toNat : Int) := by omega
            have hhi : (U[k].toNat : Int) ≤ 57 := by omega
            clear hdk
            go_wp2
            exact ⟨⟨k + 1, by simp, by omega, HB0.out, HB1.out, HN.out⟩, by simp [intOf]; omega⟩
          · obtain rfl : k = m := by omega
            have hlt2 : k < U.size := by omega
            have h32I : (U[k].toNat : Int) = 32 := by rw [H32.out]; rfl
            have hlo : (U[k].toNat : Int) < 48 := by omega
            have hkuI : ¬ (k : Int) = (U.size : Int) := by omega
            have e1 : ((k : Int) == 0) = false := by simpa using hmI
            have e2 : ((k : Int) == (U.size : Int)) = false := by simpa using hkuI
            have e3 : ((U[k].toNat : Int) != 32) = false := by rw [h32I]; rfl
            have e4 := H48.out
            have d0 := HB1.out.cellv 0 rfl; have d1 := HB1.out.cellv 1 rfl; have d2 := HB1.out.cellv 2 rfl; have d3 := HB1.out.lt; have d4 := HB1.out.frz
            go_wp2_with fail
            refine (HDG.out _).mono ?_
            rintro e w2 ⟨rfl, n2⟩
            have N2 := hid (HN.out.trans n2)
            have B20 := hid (n2.blk HB0.out); have B21 := hid (n2.blk HB1.out)
            obtain ⟨D, hD⟩ : ∃ D, D = digR (U.data.toList.take k) := ⟨_, rfl⟩
            have hlr := lenR_digR (U.data.toList.take k)
            have hdb := digR_bounds (U.data.toList.take k)
            rw [← hD] at hlr hdb
            rw [← hD]
            have HBE : Hid (w.heap.size + 1 < w2.heap.size) := hid B21.out.lt
            clear d0 d1 d2 d3 d4 n2 hD
            have d0 := B21.out.cellv 0 rfl; have d1 := B21.out.cellv 1 rfl; have d2 := B21.out.cellv 2 rfl; have d3 := B21.out.lt; have d4 := B21.out.frz
            by_cases hneg : D < 0
            · rw [if_pos hneg] at hlr
              have HLR := hid hlr
              clear hlr
              go_wp2_with fail
              refine (HCT.out _).mono ?_
              rintro e w3 ⟨pa, pc, rfl, s3, z3, n3⟩
              have B31 := hid (n3.blk (((B21.out.set 1 (.int .i64 D)).set 1 (.int .i64 65537)).row (cs' := #[.slice none 0 0, .int .i64 65537, .bool true]) rfl))
              have B30 := hid (n3.blk ((B20.out.other (by simp)).other (by simp)))
              have N3 := hid (Mod.trans ((N2.out.set _ _ (.inr (by simp))).set _ _ (.inr (by simp))) n3)
              have S3 := hid s3
              have Z3 := hid z3
              clear d0 d1 d2 d3 d4 n3 s3 z3
              have d0 := B31.out.cellv 0 rfl; have d1 := B31.out.cellv 1 rfl; have d2 := B31.out.cellv 2 rfl; have d3 := B31.out.lt; have d4 := B31.out.frz
              have g0 := B30.out.cellv 0 rfl; have g1 := B30.out.cellv 1 rfl; have g2 := B30.out.cellv 2 rfl; have g3 := B30.out.lt; have g4 := B30.out.frz
              go_wp2
              have hbe := HBE.out
              refine bodyPost_ret (v := .tuple #[.agg #[.slice pa (pathP (U.data.toList.drop (k + 1))).length pc, .int .i64 65537, .bool true], .bool true]) ?_ rfl ?_
              · rw [results_cell_tmp rfl]
                have hB := ((((B30.out.other (p := ⟨w.heap.size + 1, 0, none⟩) (u := .slice pa (pathP (U.data.toList.drop (k + 1))).length pc) (by simp)).set 0 (.slice pa (pathP (U.data.toList.drop (k + 1))).length pc)).set 1 (.int .i64 65537)).set 2 (.bool true)).row (cs' := #[.slice pa (pathP (U.data.toList.drop (k + 1))).length pc, .int .i64 65537, .bool true]) rfl
                have hld := run_loadVar_row (P := Tryz.prog) _ w.heap.size _ 51 _ (0, 0) _ hB Tryz.underlying51 rfl (by kernel_rfl)
                simp [asAddr, Result.andThen, hld]
              · have hz2 : ∀ x, pa = some x → w.heap.size + 1 < x.block ∧ x.block < w3.heap.size := fun x hx => by
                  obtain ⟨z1, z2⟩ := Z3.out x hx
                  simp at z1
                  exact ⟨by omega, z2⟩
                have hst := S3.out.mod2 (((((Mod.refl (fun b => b = w.heap.size ∨ b = w.heap.size + 1) w3).set ⟨w.heap.size + 1, 0, none⟩ (.slice pa (pathP (U.data.toList.drop (k + 1))).length pc) (.inl (.inr rfl))).set ⟨w.heap.size, 0, none⟩ (.slice pa (pathP (U.data.toList.drop (k + 1))).length pc) (.inl (.inl rfl))).set ⟨w.heap.size, 1, none⟩ (.int .i64 65537) (.inl (.inl rfl))).set ⟨w.heap.size, 2, none⟩ (.bool true) (.inl (.inl rfl))) (fun x hx => by have := hz2 x hx; omega)
                have h := OneOut.good (w := w) HY.out hst (fun x hx => ⟨by have := hz2 x hx; omega, by have := hz2 x hx; simp; omega⟩) ((((N3.out.set _ _ (.inr (by simp))).set _ _ (.inr (by simp))).set _ _ (.inr (by simp))).set _ _ (.inr (by simp)))
                simp only at h
                rw [HLR.out] at h
                exact h
            · rw [if_neg hneg] at hlr
              have HLR := hid hlr
              clear hlr
              go_wp2_with fail
              refine (HCT.out _).mono ?_
              rintro e w3 ⟨pa, pc, rfl, s3, z3, n3⟩
              have B31 := hid (n3.blk ((B21.out.set 1 (.int .i64 D)).row (cs' := #[.slice none 0 0, .int .i64 D, .bool true]) rfl))
              have B30 := hid (n3.blk (B20.out.other (by simp)))
              have N3 := hid (Mod.trans (N2.out.set _ _ (.inr (by simp))) n3)
              have S3 := hid s3
              have Z3 := hid z3
              clear d0 d1 d2 d3 d4 n3 s3 z3
              have d0 := B31.out.cellv 0 rfl; have d1 := B31.out.cellv 1 rfl; have d2 := B31.out.cellv 2 rfl; have d3 := B31.out.lt; have d4 := B31.out.frz
              have g0 := B30.out.cellv 0 rfl; have g1 := B30.out.cellv 1 rfl; have g2 := B30.out.cellv 2 rfl; have g3 := B30.out.lt; have g4 := B30.out.frz
              go_wp2
              have hbe := HBE.out
              refine bodyPost_ret (v := .tuple #[.agg #[.slice pa (pathP (U.data.toList.drop (k + 1))).length pc, .int .i64 D, .bool true], .bool true]) ?_ rfl ?_
              · rw [results_cell_tmp rfl]
                have hB := ((((B30.out.other (p := ⟨w.heap.size + 1, 0, none⟩) (u := .slice pa (pathP (U.data.toList.drop (k + 1))).length pc) (by simp)).set 0 (.slice pa (pathP (U.data.toList.drop (k + 1))).length pc)).set 1 (.int .i64 D)).set 2 (.bool true)).row (cs' := #[.slice pa (pathP (U.data.toList.drop (k + 1))).length pc, .int .i64 D, .bool true]) rfl
                have hld := run_loadVar_row (P := Tryz.prog) _ w.heap.size _ 51 _ (0, 0) _ hB Tryz.underlying51 rfl (by kernel_rfl)
                simp [asAddr, Result.andThen, hld]
              · have hz2 : ∀ x, pa = some x → w.heap.size + 1 < x.block ∧ x.block < w3.heap.size := fun x hx => by
                  obtain ⟨z1, z2⟩ := Z3.out x hx
                  simp at z1
                  exact ⟨by omega, z2⟩
                have hst := S3.out.mod2 (((((Mod.refl (fun b => b = w.heap.size ∨ b = w.heap.size + 1) w3).set ⟨w.heap.size + 1, 0, none⟩ (.slice pa (pathP (U.data.toList.drop (k + 1))).length pc) (.inl (.inr rfl))).set ⟨w.heap.size, 0, none⟩ (.slice pa (pathP (U.data.toList.drop (k + 1))).length pc) (.inl (.inl rfl))).set ⟨w.heap.size, 1, none⟩ (.int .i64 D) (.inl (.inl rfl))).set ⟨w.heap.size, 2, none⟩ (.bool true) (.inl (.inl rfl))) (fun x hx => by have := hz2 x hx; omega)
                have h := OneOut.good (w := w) HY.out hst (fun x hx => ⟨by have := hz2 x hx; omega, by have := hz2 x hx; simp; omega⟩) ((((N3.out.set _ _ (.inr (by simp))).set _ _ (.inr (by simp))).set _ _ (.inr (by simp))).set _ _ (.inr (by simp)))
                simp only at h
                rw [HLR.out] at h
                exact h
  · rw [hrest, hpd] at hcy
    clear hrest hpd
    have hus := hs
    cases hc : condP t.data.toList with
    | false => rw [hc] at hcy; cases hcy
    | true =>
      obtain ⟨m, hm, hld, h32, hm0, hcan, hall, hcut, h481, hdig⟩ := good_facts t hc
      rw [hc, if_pos rfl, hcut] at hcy
      obtain rfl := Option.some.inj hcy
      have HY := hid hy; have H32 := hid h32; have HDIG := hid hdig
      have HDG := hid (good_digits t m hus hall hcan)
      have HCT := hid (good_cut t (m + 1) hus)
      have hmI : ¬ (m : Int) = 0 := by omega
      have h0U : 0 < t.size := by omega
      have hor : ((((t[0]'h0U).toNat : Int) == 48) = true ∧ ¬ (1 : Int) < (m : Int)) ∨ (((t[0]'h0U).toNat : Int) == 48) = false := by
        by_cases h48 : t[0]'h0U = 48
        · exact .inl ⟨by rw [h48]; rfl, by have := h481 h48; omega⟩
        · refine .inr ?_
          rw [beq_eq_false_iff_ne]
          exact fun q => h48 (UInt8.toNat_inj.1 (by have : (48 : UInt8).toNat = 48 := rfl; omega))
      clear hcy hc hld h32 hcan hall hcut h481 hdig hy
      have hpos : 0 < t.size := h0U
      have hem : t.toList.isEmpty = false := (canon_cases t hpos).1
      have h42 := h42 hpos
      rcases hor with ⟨h48, hm1I⟩ | h48
      · have H48 := hid h48
        clear h48
        go_enter Tryz.func48, Tryz.ntmps48
        go_wp2
        go_loopw [5] (fun x wr => ∃ (k : Nat), x = .int .i64 k ∧ k ≤ m ∧ Blk wr w.heap.size #[.slice none 0 0, .int .i64 0, .bool false] 51 ∧ Blk wr (w.heap.size + 1) #[.slice none 0 0, .int .i64 0, .bool false] 51 ∧ New w wr) (fun x _ => t.size - (intOf x).toNat)
        case atStart => exact ⟨0, rfl, by omega, (Blk.new w _ _).alloc _, Blk.newAt (by simp), ((Mod.refl _ _).alloc _).alloc _⟩
        case round =>
          obtain ⟨k, rfl, hk, hb0, hb1, hn⟩ := hrel
          have HN := hid hn
          have HB0 := hid hb0
          have HB1 := hid hb1
          clear hn hb0 hb1
          by_cases hlt : k < m
          · have hlt2 : k < t.size := by omega
            have hltI : (k : Int) < (t.size : Int) := by omega
            have hdk := HDIG.out k hlt2 hlt
            simp only [isDig, Bool.and_eq_true, decide_eq_true_eq] at hdk
            have hlo : (48 : Int) ≤ (t[k].toNat : Int) := by omega
            have hhi : (t[k].toNat : Int) ≤ 57 := by omega
            clear hdk
            go_wp2
            exact ⟨⟨k + 1, by simp, by omega, HB0.out, HB1.out, HN.out⟩, by simp [intOf]; omega⟩
          · obtain rfl : k = m := by omega
            have hlt2 : k < t.size := by omega
            have h32I : (t[k].toNat : Int) = 32 := by rw [H32.out]; rfl
            have hlo : (t[k].toNat : Int) < 48 := by omega
            have hkuI : ¬ (k : Int) = (t.size : Int) := by omega
            have e1 : ((k : Int) == 0) = false := by simpa using hmI
            have e2 : ((k : Int) == (t.size : Int)) = false := by simpa using hkuI
            have e3 : ((t[k].toNat : Int) != 32) = false := by rw [h32I]; rfl
            have e4 := H48.out
            have d0 := HB1.out.cellv 0 rfl; have d1 := HB1.out.cellv 1 rfl; have d2 := HB1.out.cellv 2 rfl; have d3 := HB1.out.lt; have d4 := HB1.out.frz
            go_wp2_with fail
            refine (HDG.out _).mono ?_
            rintro e w2 ⟨rfl, n2⟩
            have N2 := hid (HN.out.trans n2)
            have B20 := hid (n2.blk HB0.out); have B21 := hid (n2.blk HB1.out)
            obtain ⟨D, hD⟩ : ∃ D, D = digR (t.data.toList.take k) := ⟨_, rfl⟩
            have hlr := lenR_digR (t.data.toList.take k)
            have hdb := digR_bounds (t.data.toList.take k)
            rw [← hD] at hlr hdb
            rw [← hD]
            have HBE : Hid (w.heap.size + 1 < w2.heap.size) := hid B21.out.lt
            clear d0 d1 d2 d3 d4 n2 hD
            have d0 := B21.out.cellv 0 rfl; have d1 := B21.out.cellv 1 rfl; have d2 := B21.out.cellv 2 rfl; have d3 := B21.out.lt; have d4 := B21.out.frz
            by_cases hneg : D < 0
            · rw [if_pos hneg] at hlr
              have HLR := hid hlr
              clear hlr
              go_wp2_with fail
              refine (HCT.out _).mono ?_
              rintro e w3 ⟨pa, pc, rfl, s3, z3, n3⟩
              have B31 := hid (n3.blk (((B21.out.set 1 (.int .i64 D)).set 1 (.int .i64 65537)).row (cs' := #[.slice none 0 0, .int .i64 65537, .bool false]) rfl))
              have B30 := hid (n3.blk ((B20.out.other (by simp)).other (by simp)))
              have N3 := hid (Mod.trans ((N2.out.set _ _ (.inr (by simp))).set _ _ (.inr (by simp))) n3)
              have S3 := hid s3
              have Z3 := hid z3
              clear d0 d1 d2 d3 d4 n3 s3 z3
              have d0 := B31.out.cellv 0 rfl; have d1 := B31.out.cellv 1 rfl; have d2 := B31.out.cellv 2 rfl; have d3 := B31.out.lt; have d4 := B31.out.frz
              have g0 := B30.out.cellv 0 rfl; have g1 := B30.out.cellv 1 rfl; have g2 := B30.out.cellv 2 rfl; have g3 := B30.out.lt; have g4 := B30.out.frz
              go_wp2
              have hbe := HBE.out
              refine bodyPost_ret (v := .tuple #[.agg #[.slice pa (pathP (t.data.toList.drop (k + 1))).length pc, .int .i64 65537, .bool false], .bool true]) ?_ rfl ?_
              · rw [results_cell_tmp rfl]
                have hB := ((((B30.out.other (p := ⟨w.heap.size + 1, 0, none⟩) (u := .slice pa (pathP (t.data.toList.drop (k + 1))).length pc) (by simp)).set 0 (.slice pa (pathP (t.data.toList.drop (k + 1))).length pc)).set 1 (.int .i64 65537)).set 2 (.bool false)).row (cs' := #[.slice pa (pathP (t.data.toList.drop (k + 1))).length pc, .int .i64 65537, .bool false]) rfl
                have hld := run_loadVar_row (P := Tryz.prog) _ w.heap.size _ 51 _ (0, 0) _ hB Tryz.underlying51 rfl (by kernel_rfl)
                simp [asAddr, Result.andThen, hld]
              · have hz2 : ∀ x, pa = some x → w.heap.size + 1 < x.block ∧ x.block < w3.heap.size := fun x hx => by
                  obtain ⟨z1, z2⟩ := Z3.out x hx
                  simp at z1
                  exact ⟨by omega, z2⟩
                have hst := S3.out.mod2 (((((Mod.refl (fun b => b = w.heap.size ∨ b = w.heap.size + 1) w3).set ⟨w.heap.size + 1, 0, none⟩ (.slice pa (pathP (t.data.toList.drop (k + 1))).length pc) (.inl (.inr rfl))).set ⟨w.heap.size, 0, none⟩ (.slice pa (pathP (t.data.toList.drop (k + 1))).length pc) (.inl (.inl rfl))).set ⟨w.heap.size, 1, none⟩ (.int .i64 65537) (.inl (.inl rfl))).set ⟨w.heap.size, 2, none⟩ (.bool false) (.inl (.inl rfl))) (fun x hx => by have := hz2 x hx; omega)
                have h := OneOut.good (w := w) HY.out hst (fun x hx => ⟨by have := hz2 x hx; omega, by have := hz2 x hx; simp; omega⟩) ((((N3.out.set _ _ (.inr (by simp))).set _ _ (.inr (by simp))).set _ _ (.inr (by simp))).set _ _ (.inr (by simp)))
                simp only at h
                rw [HLR.out] at h
                exact h
            · rw [if_neg hneg] at hlr
              have HLR := hid hlr
              clear hlr
              go_wp2_with fail
              refine (HCT.out _).mono ?_
              rintro e w3 ⟨pa, pc, rfl, s3, z3, n3⟩
              have B31 := hid (n3.blk ((B21.out.set 1 (.int .i64 D)).row (cs' := #[.slice none 0 0, .int .i64 D, .bool false]) rfl))
              have B30 := hid (n3.blk (B20.out.other (by simp)))
              have N3 := hid (Mod.trans (N2.out.set _ _ (.inr (by simp))) n3)
              have S3 := hid s3
              have Z3 := hid z3
              clear d0 d1 d2 d3 d4 n3 s3 z3
              have d0 := B31.out.cellv 0 rfl; have d1 := B31.out.cellv 1 rfl; have d2 := B31.out.cellv 2 rfl; have d3 := B31.out.lt; have d4 := B31.out.frz
              have g0 := B30.out.cellv 0 rfl; have g1 := B30.out.cellv 1 rfl; have g2 := B30.out.cellv 2 rfl; have g3 := B30.out.lt; have g4 := B30.out.frz
              go_wp2
              have hbe := HBE.out
              refine bodyPost_ret (v := .tuple #[.agg #[.slice pa (pathP (t.data.toList.drop (k + 1))).length pc, .int .i64 D, .bool false], .bool true]) ?_ rfl ?_
              · rw [results_cell_tmp rfl]
                have hB := ((((B30.out.other (p := ⟨w.heap.size + 1, 0, none⟩) (u := .slice pa (pathP (t.data.toList.drop (k + 1))).length pc) (by simp)).set 0 (.slice pa (pathP (t.data.toList.drop (k + 1))).length pc)).set 1 (.int .i64 D)).set 2 (.bool false)).row (cs' := #[.slice pa (pathP (t.data.toList.drop (k + 1))).length pc, .int .i64 D, .bool false]) rfl
                have hld := run_loadVar_row (P := Tryz.prog) _ w.heap.size _ 51 _ (0, 0) _ hB Tryz.underlying51 rfl (by kernel_rfl)
                simp [asAddr, Result.andThen, hld]
              · have hz2 : ∀ x, pa = some x → w.heap.size + 1 < x.block ∧ x.block < w3.heap.size := fun x hx => by
                  obtain ⟨z1, z2⟩ := Z3.out x hx
                  simp at z1
                  exact ⟨by omega, z2⟩
                have hst := S3.out.mod2 (((((Mod.refl (fun b => b = w.heap.size ∨ b = w.heap.size + 1) w3).set ⟨w.heap.size + 1, 0, none⟩ (.slice pa (pathP (t.data.toList.drop (k + 1))).length pc) (.inl (.inr rfl))).set ⟨w.heap.size, 0, none⟩ (.slice pa (pathP (t.data.toList.drop (k + 1))).length pc) (.inl (.inl rfl))).set ⟨w.heap.size, 1, none⟩ (.int .i64 D) (.inl (.inl rfl))).set ⟨w.heap.size, 2, none⟩ (.bool false) (.inl (.inl rfl))) (fun x hx => by have := hz2 x hx; omega)
                have h := OneOut.good (w := w) HY.out hst (fun x hx => ⟨by have := hz2 x hx; omega, by have := hz2 x hx; simp; omega⟩) ((((N3.out.set _ _ (.inr (by simp))).set _ _ (.inr (by simp))).set _ _ (.inr (by simp))).set _ _ (.inr (by simp)))
                simp only at h
                rw [HLR.out] at h
                exact h
      · have H48 := hid h48
        clear h48
        go_enter Tryz.func48, Tryz.ntmps48
        go_wp2
        go_loopw [5] (fun x wr => ∃ (k : Nat), x = .int .i64 k ∧ k ≤ m ∧ Blk wr w.heap.size #[.slice none 0 0, .int .i64 0, .bool false] 51 ∧ Blk wr (w.heap.size + 1) #[.slice none 0 0, .int .i64 0, .bool false] 51 ∧ New w wr) (fun x _ => t.size - (intOf x).toNat)
        case atStart => exact ⟨0, rfl, by omega, (Blk.new w _ _).alloc _, Blk.newAt (by simp), ((Mod.refl _ _).alloc _).alloc _⟩
        case round =>
          obtain ⟨k, rfl, hk, hb0, hb1, hn⟩ := hrel
          have HN := hid hn
          have HB0 := hid hb0
          have HB1 := hid hb1
          clear hn hb0 hb1
          by_cases hlt : k < m
          · have hlt2 : k < t.size := by omega
            have hltI : (k : Int) < (t.size : Int) := by omega
            have hdk := HDIG.out k hlt2 hlt
            simp only [isDig, Bool.and_eq_true, decide_eq_true_eq] at hdk
            have hlo : (48 : Int) ≤ (t[k].toNat : Int) := by omega
            have hhi : (t[k].toNat : Int) ≤ 57 := by omega
            clear hdk
            go_wp2
            exact ⟨⟨k + 1, by simp, by omega, HB0.out, HB1.out, HN.out⟩, by simp [intOf]; omega⟩
          · obtain rfl : k = m := by omega
            have hlt2 : k < t.size := by omega
            have h32I : (t[k].toNat : Int) = 32 := by rw [H32.out]; rfl
            have hlo : (t[k].toNat : Int) < 48 := by omega
            have hkuI : ¬ (k : Int) = (t.size : Int) := by omega
            have e1 : ((k : Int) == 0) = false := by simpa using hmI
            have e2 : ((k : Int) == (t.size : Int)) = false := by simpa using hkuI
            have e3 : ((t[k].toNat : Int) != 32) = false := by rw [h32I]; rfl
            have e4 := H48.out
            have d0 := HB1.out.cellv 0 rfl; have d1 := HB1.out.cellv 1 rfl; have d2 := HB1.out.cellv 2 rfl; have d3 := HB1.out.lt; have d4 := HB1.out.frz
            go_wp2_with fail
            refine (HDG.out _).mono ?_
            rintro e w2 ⟨rfl, n2⟩
            have N2 := hid (HN.out.trans n2)
            have B20 := hid (n2.blk HB0.out); have B21 := hid (n2.blk HB1.out)
            obtain ⟨D, hD⟩ : ∃ D, D = digR (t.data.toList.take k) := ⟨_, rfl⟩
            have hlr := lenR_digR (t.data.toList.take k)
            have hdb := digR_bounds (t.data.toList.take k)
            rw [← hD] at hlr hdb
            rw [← hD]
            have HBE : Hid (w.heap.size + 1 < w2.heap.size) := hid B21.out.lt
            clear d0 d1 d2 d3 d4 n2 hD
            have d0 := B21.out.cellv 0 rfl; have d1 := B21.out.cellv 1 rfl; have d2 := B21.out.cellv 2 rfl; have d3 := B21.out.lt; have d4 := B21.out.frz
            by_cases hneg : D < 0
            · rw [if_pos hneg] at hlr
              have HLR := hid hlr
              clear hlr
              go_wp2_with fail
              refine (HCT.out _).mono ?_
              rintro e w3 ⟨pa, pc, rfl, s3, z3, n3⟩
              have B31 := hid (n3.blk (((B21.out.set 1 (.int .i64 D)).set 1 (.int .i64 65537)).row (cs' := #[.slice none 0 0, .int .i64 65537, .bool false]) rfl))
              have B30 := hid (n3.blk ((B20.out.other (by simp)).other (by simp)))
              have N3 := hid (Mod.trans ((N2.out.set _ _ (.inr (by simp))).set _ _ (.inr (by simp))) n3)
              have S3 := hid s3
              have Z3 := hid z3
              clear d0 d1 d2 d3 d4 n3 s3 z3
              have d0 := B31.out.cellv 0 rfl; have d1 := B31.out.cellv 1 rfl; have d2 := B31.out.cellv 2 rfl; have d3 := B31.out.lt; have d4 := B31.out.frz
              have g0 := B30.out.cellv 0 rfl; have g1 := B30.out.cellv 1 rfl; have g2 := B30.out.cellv 2 rfl; have g3 := B30.out.lt; have g4 := B30.out.frz
              go_wp2
              have hbe := HBE.out
              refine bodyPost_ret (v := .tuple #[.agg #[.slice pa (pathP (t.data.toList.drop (k + 1))).length pc, .int .i64 65537, .bool false], .bool true]) ?_ rfl ?_
              · rw [results_cell_tmp rfl]
                have hB := ((((B30.out.other (p := ⟨w.heap.size + 1, 0, none⟩) (u := .slice pa (pathP (t.data.toList.drop (k + 1))).length pc) (by simp)).set 0 (.slice pa (pathP (t.data.toList.drop (k + 1))).length pc)).set 1 (.int .i64 65537)).set 2 (.bool false)).row (cs' := #[.slice pa (pathP (t.data.toList.drop (k + 1))).length pc, .int .i64 65537, .bool false]) rfl
                have hld := run_loadVar_row (P := Tryz.prog) _ w.heap.size _ 51 _ (0, 0) _ hB Tryz.underlying51 rfl (by kernel_rfl)
                simp [asAddr, Result.andThen, hld]
              · have hz2 : ∀ x, pa = some x → w.heap.size + 1 < x.block ∧ x.block < w3.heap.size := fun x hx => by
                  obtain ⟨z1, z2⟩ := Z3.out x hx
                  simp at z1
                  exact ⟨by omega, z2⟩
                have hst := S3.out.mod2 (((((Mod.refl (fun b => b = w.heap.size ∨ b = w.heap.size + 1) w3).set ⟨w.heap.size + 1, 0, none⟩ (.slice pa (pathP (t.data.toList.drop (k + 1))).length pc) (.inl (.inr rfl))).set ⟨w.heap.size, 0, none⟩ (.slice pa (pathP (t.data.toList.drop (k + 1))).length pc) (.inl (.inl rfl))).set ⟨w.heap.size, 1, none⟩ (.int .i64 65537) (.inl (.inl rfl))).set ⟨w.heap.size, 2, none⟩ (.bool false) (.inl (.inl rfl))) (fun x hx => by have := hz2 x hx; omega)
                have h := OneOut.good (w := w) HY.out hst (fun x hx => ⟨by have := hz2 x hx; omega, by have := hz2 x hx; simp; omega⟩) ((((N3.out.set _ _ (.inr (by simp))).set _ _ (.inr (by simp))).set _ _ (.inr (by simp))).set _ _ (.inr (by simp)))
                simp only at h
                rw [HLR.out] at h
                exact h
            · rw [if_neg hneg] at hlr
              have HLR := hid hlr
              clear hlr
              go_wp2_with fail
              refine (HCT.out _).mono ?_
              rintro e w3 ⟨pa, pc, rfl, s3, z3, n3⟩
              have B31 := hid (n3.blk ((B21.out.set 1 (.int .i64 D)).row (cs' := #[.slice none 0 0, .int .i64 D, .bool false]) rfl))
              have B30 := hid (n3.blk (B20.out.other (by simp)))
              have N3 := hid (Mod.trans (N2.out.set _ _ (.inr (by simp))) n3)
              have S3 := hid s3
              have Z3 := hid z3
              clear d0 d1 d2 d3 d4 n3 s3 z3
              have d0 := B31.out.cellv 0 rfl; have d1 := B31.out.cellv 1 rfl; have d2 := B31.out.cellv 2 rfl; have d3 := B31.out.lt; have d4 := B31.out.frz
              have g0 := B30.out.cellv 0 rfl; have g1 := B30.out.cellv 1 rfl; have g2 := B30.out.cellv 2 rfl; have g3 := B30.out.lt; have g4 := B30.out.frz
              go_wp2
              have hbe := HBE.out
              refine bodyPost_ret (v := .tuple #[.agg #[.slice pa (pathP (t.data.toList.drop (k + 1))).length pc, .int .i64 D, .bool false], .bool true]) ?_ rfl ?_
              · rw [results_cell_tmp rfl]
                have hB := ((((B30.out.other (p := ⟨w.heap.size + 1, 0, none⟩) (u := .slice pa (pathP (t.data.toList.drop (k + 1))).length pc) (by simp)).set 0 (.slice pa (pathP (t.data.toList.drop (k + 1))).length pc)).set 1 (.int .i64 D)).set 2 (.bool false)).row (cs' := #[.slice pa (pathP (t.data.toList.drop (k + 1))).length pc, .int .i64 D, .bool false]) rfl
                have hld := run_loadVar_row (P := Tryz.prog) _ w.heap.size _ 51 _ (0, 0) _ hB Tryz.underlying51 rfl (by kernel_rfl)
                simp [asAddr, Result.andThen, hld]
              · have hz2 : ∀ x, pa = some x → w.heap.size + 1 < x.block ∧ x.block < w3.heap.size := fun x hx => by
                  obtain ⟨z1, z2⟩ := Z3.out x hx
                  simp at z1
                  exact ⟨by omega, z2⟩
                have hst := S3.out.mod2 (((((Mod.refl (fun b => b = w.heap.size ∨ b = w.heap.size + 1) w3).set ⟨w.heap.size + 1, 0, none⟩ (.slice pa (pathP (t.data.toList.drop (k + 1))).length pc) (.inl (.inr rfl))).set ⟨w.heap.size, 0, none⟩ (.slice pa (pathP (t.data.toList.drop (k + 1))).length pc) (.inl (.inl rfl))).set ⟨w.heap.size, 1, none⟩ (.int .i64 D) (.inl (.inl rfl))).set ⟨w.heap.size, 2, none⟩ (.bool false) (.inl (.inl rfl))) (fun x hx => by have := hz2 x hx; omega)
                have h := OneOut.good (w := w) HY.out hst (fun x hx => ⟨by have := hz2 x hx; omega, by have := hz2 x hx; simp; omega⟩) ((((N3.out.set _ _ (.inr (by simp))).set _ _ (.inr (by simp))).set _ _ (.inr (by simp))).set _ _ (.inr (by simp)))
                simp only at h
                rw [HLR.out] at h
                exact h
theorem one_any (t : ByteArray) (w : World) (hs : t.size ≤ 70000) :
    Calls Tryz.prog 48 #[.string t] w fun e w' => OneOut w w' t.data.toList e := by
  cases h : lineP t.data.toList with
  | none => exact one_bad t w hs h
  | some y => exact one_good t w hs y h
end Go.Proofs.YtnccfikimmolgaaGreatDoor
