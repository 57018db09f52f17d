/-
  Several texts in one, in their build order. The walk of FromRuns (package bits). Conditions: at most 4096 bits; the runs lie as told. The reference's Field and New. Conditions: the truths lie as told; at most 4096 bits. The reference's New and FromRuns. Conditions: at most 4096 bits; the runs lie as told.
-/
import Derived.Test.YtbgmkplpolgebaaGreatDoorM17
namespace Go.Proofs.YtbgmkplpolgebaaGreatDoor
set_option linter.unusedSimpArgs false
set_option linter.unusedVariables false
open Go.RowKit Go.Shelf

def frE : Except Int (List UInt8) → Ending
  | .ok s => .returned (.tuple #[.string ⟨s.toArray⟩, .int .i64 0])
  | .error k => .returned (.tuple #[.string ⟨#[]⟩, .int .i64 k])
theorem frS_next {n : Nat} {A : List (Int × Int)} {r : Int × Int} {st st' : Int × List UInt8} {x : Int × List UInt8} (h : frS n A x = .ok st) (h2 : frStep n st r = .ok st') : frS n (A ++ [r]) x = .ok st' := by
  rw [frS_app, h]
  simp only [frS, h2]
theorem frR_bad {n : Nat} {A B : List (Int × Int)} {r : Int × Int} {st : Int × List UInt8} {k : Int} (h : frS n A (0, zerosL n) = .ok st) (h2 : frStep n st r = .error k) : frR n (A ++ r :: B) = .error k := by
  unfold frR
  rw [frS_app, h]
  simp only [frS, h2]
theorem frR_ok {n : Nat} {U : List (Int × Int)} {st : Int × List UInt8} (h : frS n U (0, zerosL n) = .ok st) : frR n U = .ok st.2 := by
  unfold frR
  rw [h]
theorem lst_next {α : Type} {l : List α} {k : Nat} (h : k < l.length) : l.take (k + 1) = l.take k ++ [l[k]] := List.take_succ_eq_append_getElem h
theorem lst_all {α : Type} {l : List α} {k : Nat} (h : k < l.length) : l = l.take k ++ l[k] :: l.drop (k + 1) := by
  rw [List.getElem_cons_drop, List.take_append_drop]
theorem fill_len (s : List UInt8) (a : Nat) : ∀ c, (fillL s a c).length = s.length
  | 0 => rfl
  | c + 1 => by
    show (setL (fillL s a c) (a + c) true).length = _
    rw [setL_len, fill_len s a c]
set_option maxRecDepth 100000 in
set_option maxHeartbeats 8000000 in
theorem bFrom_any (n : Nat) (U : List (Int × Int)) (v : Value) (w : World) (h : RunsAt w v U) (hn : n ≤ 4096) :
    Calls Tryz.prog 39 #[.int .i64 n, v] w fun e w' => e = frE (frR n U) ∧ New w w' := by
  obtain ⟨a, c, rfl, hc1, hc2, hU⟩ := h
  unfold maxLen at hc2
  have HU := hid hU
  have HEM := hid (fun W => bempty_any n W hn)
  have hfd := fld_1
  obtain ⟨X, hX⟩ : ∃ X, X = frR n U := ⟨_, rfl⟩
  rw [← hX]
  have HXX := hid hX
  clear hU hX
  go_enter_defers Tryz.func39, Tryz.ntmps39
  go_wp2_with fail
  refine (HEM.out _).mono ?_
  rintro e w1 ⟨g, cz, rfl, hby, hg, n1⟩
  have N1 : Hid (New w w1) := hid (((Mod.refl _ w).alloc (.cells #[.int .i64 0] 28) : New w _).trans n1)
  have E1 : Hid (Blk w1 w.heap.size #[.int .i64 0] 28) := hid (New.blk n1 (Blk.new _ _ _))
  have HBY := hid hby
  have hg1 : w.heap.size + 1 ≤ g := by simpa using hg
  have hg2 : g < w1.heap.size := hby.lt
  have hsz := N1.out.size
  have hel := E1.out.lt
  clear hby n1 hg HEM
  go_wp2_with fail
  refine name_worldZ (p := fun W => Code.wp _ _ _ _ W) (fun W2 hW2 => ?_)
  have F2 : Blk W2 w1.heap.size #[.int .i64 n, .slice (some ⟨g, 0, none⟩) (zerosL n).length cz] 120 := by
    rw [hW2]
    apply Blk.row
    · repeat (first | with_reducible exact E1.out | (with_reducible apply Blk.newAt; (simp; done)) | with_reducible apply Blk.alloc | with_reducible apply Blk.drew | with_reducible apply Blk.drewN | with_reducible apply Blk.set | (with_reducible apply Blk.other; · first | (simp; done) | (simp; omega) | omega) | (with_reducible apply Blk.putObj; · first | (simp; done) | (simp; omega) | omega))
    · rfl
  have N2 : New w1 W2 := by
    rw [hW2]
    repeat (first | with_reducible exact Mod.refl _ _ | with_reducible refine Mod.alloc ?_ _ | with_reducible refine Mod.drew ?_ | with_reducible refine Mod.drewN ?_ _ | (with_reducible refine Mod.set ?_ _ _ (by first | exact .inl rfl | (right; omega) | (right; simp; done) | (right; simp; omega) | (left; omega) | (left; simp; done) | (left; simp; omega))) | (with_reducible refine Mod.putObj ?_ _ _ (by first | exact .inl rfl | (right; omega) | (right; simp; done) | (right; simp; omega) | (left; omega) | (left; simp; done) | (left; simp; omega))))
  have HF2 := hid F2
  have HN2 := hid (N1.out.trans N2)
  have HE2 := hid (New.blk N2 E1.out)
  have HB2 := hid (HBY.out.new N2)
  obtain ⟨F, hF⟩ : ∃ F, F = w1.heap.size := ⟨_, rfl⟩
  rw [← hF] at HF2 hg2 hsz hel ⊢
  clear hW2 F2 N2 HBY N1 E1 hF w1
  go_loopw [15, 7] (fun i o wr => ∃ (k : Nat) (E : Int) (S : List UInt8), i = .int .i64 k ∧ o = .int .i64 E ∧ k ≤ U.length ∧ frS n (U.take k) (0, zerosL n) = .ok (E, S) ∧ 0 ≤ E ∧ E ≤ n ∧ Blk wr F #[.int .i64 n, .slice (some ⟨g, 0, none⟩) (zerosL n).length cz] 120 ∧ Blk wr w.heap.size #[.int .i64 0] 28 ∧ ByAt wr g S ∧ New w wr) (fun i _ _ => U.length - (intOf i).toNat)
  case atStart => exact ⟨0, 0, zerosL n, rfl, rfl, by omega, by rw [List.take_zero]; rfl, by omega, by omega, HF2.out, HE2.out, HB2.out, HN2.out⟩
  case round =>
    clear HF2 HN2 HE2 HB2
    obtain ⟨k, E, S, rfl, rfl, hk, hfs, hE0, hE1, hf, he, hby, hn'⟩ := hrel
    have HFS := hid hfs; have HF := hid hf; have HE := hid he; have HB := hid hby; have HN := hid hn'
    have hSl := (frS_field _ _ _ (FieldOf.zero n) hfs).len
    simp only at hSl
    have hzl : (zerosL n).length = S.length := by rw [hSl]; unfold zerosL; simp
    have HSF := hid (frS_field _ _ _ (FieldOf.zero n) hfs)
    have hFl := hf.lt
    clear hfs he hby hn'
    by_cases hlt : k < U.length
    · have hltI : (k : Int) < (U.length : Int) := by omega
      rcases HU.out with hnil | ⟨bb, oo, rfl, hbb, hcc⟩
      · rw [hnil] at hlt; simp at hlt
      · obtain ⟨g0, g1⟩ := hcc k hlt
        have g0 := HN.out.cellv g0
        have g1 := HN.out.cellv g1
        have HALL := hid (lst_all hlt)
        have HTK := hid (lst_next hlt)
        obtain ⟨r, hr⟩ : ∃ r, r = U[k] := ⟨_, rfl⟩
        rw [← hr] at g0 g1 HALL HTK
        have HZL := hid hzl
        have HSL := hid hSl
        have hf0 := hf.cellv 0 rfl; have hf1 := hf.cellv 1 rfl
        clear hcc hr hf hSl hzl
        by_cases b1 : r.2 < 1
        · have HX : Hid (X = .error 7) := hid (by rw [HXX.out, HALL.out]; exact frR_bad HFS.out (by unfold frStep; rw [if_pos (by (simp [runBad, b1]))]))
          go_wp2_with (first | (go_at_call 100; refine (bfail_raise 7 _).mono ?_; rintro e w9 ⟨rfl, rfl⟩) | fail)
          have HE9 := hid (HE.out.alloc (.cells #[.int .i64 r.1, .int .i64 r.2] 66))
          have HN9 := hid (HN.out.alloc (.cells #[.int .i64 r.1, .int .i64 r.2] 66))
          refine leaves_cons (f := 98) (args := #[.pointer (some ⟨w.heap.size, 0, none⟩)]) (by simp) (by simp [go_sem]) ?_
          refine (bcaught_told w.heap.size 7 _ HE9.out).mono ?_
          rintro e u' w6 ⟨rfl, rfl, bq, m6⟩
          have d3 := bq.cellv 0 rfl
          refine ⟨.tuple #[.string ⟨#[]⟩, .int .i64 7], by simp [results, Tryz.results39, go_sem, d3], by rw [HX.out]; rfl, ?_⟩
          exact HN9.out.trans' m6 (fun j h1 h2 => by omega)
        have c1 : decide (r.2 < 1) = false := decide_eq_false b1
        by_cases b2 : r.1 < 0
        · have HX : Hid (X = .error 7) := hid (by rw [HXX.out, HALL.out]; exact frR_bad HFS.out (by unfold frStep; rw [if_pos (by (simp [runBad, b2]))]))
          go_wp2_with (first | (go_at_call 100; refine (bfail_raise 7 _).mono ?_; rintro e w9 ⟨rfl, rfl⟩) | fail)
          have HE9 := hid (HE.out.alloc (.cells #[.int .i64 r.1, .int .i64 r.2] 66))
          have HN9 := hid (HN.out.alloc (.cells #[.int .i64 r.1, .int .i64 r.2] 66))
          refine leaves_cons (f := 98) (args := #[.pointer (some ⟨w.heap.size, 0, none⟩)]) (by simp) (by simp [go_sem]) ?_
          refine (bcaught_told w.heap.size 7 _ HE9.out).mono ?_
          rintro e u' w6 ⟨rfl, rfl, bq, m6⟩
          have d3 := bq.cellv 0 rfl
          refine ⟨.tuple #[.string ⟨#[]⟩, .int .i64 7], by simp [results, Tryz.results39, go_sem, d3], by rw [HX.out]; rfl, ?_⟩
          exact HN9.out.trans' m6 (fun j h1 h2 => by omega)
        have c2 : decide (r.1 < 0) = false := decide_eq_false b2
        by_cases b3 : (n : Int) < r.1
        · have HX : Hid (X = .error 7) := hid (by rw [HXX.out, HALL.out]; exact frR_bad HFS.out (by unfold frStep; rw [if_pos (by (simp [runBad, b3]))]))
          go_wp2_with (first | (go_at_call 100; refine (bfail_raise 7 _).mono ?_; rintro e w9 ⟨rfl, rfl⟩) | fail)
          have HE9 := hid (HE.out.alloc (.cells #[.int .i64 r.1, .int .i64 r.2] 66))
          have HN9 := hid (HN.out.alloc (.cells #[.int .i64 r.1, .int .i64 r.2] 66))
          refine leaves_cons (f := 98) (args := #[.pointer (some ⟨w.heap.size, 0, none⟩)]) (by simp) (by simp [go_sem]) ?_
          refine (bcaught_told w.heap.size 7 _ HE9.out).mono ?_
          rintro e u' w6 ⟨rfl, rfl, bq, m6⟩
          have d3 := bq.cellv 0 rfl
          refine ⟨.tuple #[.string ⟨#[]⟩, .int .i64 7], by simp [results, Tryz.results39, go_sem, d3], by rw [HX.out]; rfl, ?_⟩
          exact HN9.out.trans' m6 (fun j h1 h2 => by omega)
        have c3 : decide ((n : Int) < r.1) = false := decide_eq_false b3
        by_cases b4 : (n : Int) - r.1 < r.2
        · have HX : Hid (X = .error 7) := hid (by rw [HXX.out, HALL.out]; exact frR_bad HFS.out (by unfold frStep; rw [if_pos (by (simp [runBad, b4]))]))
          go_wp2_with (first | (go_at_call 100; refine (bfail_raise 7 _).mono ?_; rintro e w9 ⟨rfl, rfl⟩) | fail)
          have HE9 := hid (HE.out.alloc (.cells #[.int .i64 r.1, .int .i64 r.2] 66))
          have HN9 := hid (HN.out.alloc (.cells #[.int .i64 r.1, .int .i64 r.2] 66))
          refine leaves_cons (f := 98) (args := #[.pointer (some ⟨w.heap.size, 0, none⟩)]) (by simp) (by simp [go_sem]) ?_
          refine (bcaught_told w.heap.size 7 _ HE9.out).mono ?_
          rintro e u' w6 ⟨rfl, rfl, bq, m6⟩
          have d3 := bq.cellv 0 rfl
          refine ⟨.tuple #[.string ⟨#[]⟩, .int .i64 7], by simp [results, Tryz.results39, go_sem, d3], by rw [HX.out]; rfl, ?_⟩
          exact HN9.out.trans' m6 (fun j h1 h2 => by omega)
        have c4 : decide ((n : Int) - r.1 < r.2) = false := decide_eq_false b4
        have HRB := hid (show ¬ runBad n r = true by simp [runBad]; omega)
        by_cases b5 : r.1 < E
        · have HX : Hid (X = .error 6) := hid (by rw [HXX.out, HALL.out]; exact frR_bad HFS.out (by unfold frStep; rw [if_neg HRB.out, if_pos b5]))
          have d5 : decide (r.1 < E) = true := decide_eq_true b5
          go_wp2_with (first | (go_at_call_of 100 (Value.bool false); refine (bfail_pass _ _).mono ?_; rintro e w9 ⟨rfl, rfl⟩) | (go_at_call 100; refine (bfail_raise 6 _).mono ?_; rintro e w9 ⟨rfl, rfl⟩) | fail)
          have HE9 := hid (HE.out.alloc (.cells #[.int .i64 r.1, .int .i64 r.2] 66))
          have HN9 := hid (HN.out.alloc (.cells #[.int .i64 r.1, .int .i64 r.2] 66))
          refine leaves_cons (f := 98) (args := #[.pointer (some ⟨w.heap.size, 0, none⟩)]) (by simp) (by simp [go_sem]) ?_
          refine (bcaught_told w.heap.size 6 _ HE9.out).mono ?_
          rintro e u' w6 ⟨rfl, rfl, bq, m6⟩
          have d3 := bq.cellv 0 rfl
          refine ⟨.tuple #[.string ⟨#[]⟩, .int .i64 6], by simp [results, Tryz.results39, go_sem, d3], by rw [HX.out]; rfl, ?_⟩
          exact HN9.out.trans' m6 (fun j h1 h2 => by omega)
        have d5 : decide (r.1 < E) = false := decide_eq_false b5
        obtain ⟨x, hx⟩ : ∃ x : Nat, r.1 = (x : Int) := ⟨r.1.toNat, by omega⟩
        obtain ⟨y, hy⟩ : ∃ y : Nat, r.2 = (y : Int) := ⟨r.2.toNat, by omega⟩
        have HST := hid (show frStep n (E, S) r = .ok (r.1 + r.2, fillL S x y) by unfold frStep; rw [if_neg HRB.out, if_neg b5, hx, hy]; rfl)
        rw [hx] at g0 HST b2 b3 b4 b5 c2 c3 c4 d5
        rw [hy] at g1 HST b1 b4 c1 c4
        have hxy : x + y ≤ n := by omega
        have hwx : IntKind.i64.wrap ((x : Int) + (y : Int)) = (x : Int) + (y : Int) := by rw [IntKind.wrap_i64]; omega
        clear hx hy
        go_wp2_with (first | (go_at_call 100; refine (bfail_pass _ _).mono ?_; rintro e w9 ⟨rfl, rfl⟩) | fail)
        have HEX := hid (HE.out.alloc (.cells #[.int .i64 (x : Int), .int .i64 (y : Int)] 66))
        have HFX := hid (HF.out.alloc (.cells #[.int .i64 (x : Int), .int .i64 (y : Int)] 66))
        have HNX := hid (HN.out.alloc (.cells #[.int .i64 (x : Int), .int .i64 (y : Int)] 66))
        have HBX := hid (HB.out.new ((Mod.refl _ wr).alloc (.cells #[.int .i64 (x : Int), .int .i64 (y : Int)] 66)))
        obtain ⟨WX, hWX⟩ : ∃ WX, WX = wr.alloc (.cells #[.int .i64 (x : Int), .int .i64 (y : Int)] 66) := ⟨_, rfl⟩
        rw [← hWX] at HEX HFX HNX HBX
        rw [← hWX]
        clear hWX hf0 hf1 g0 g1 hFl hwx d5 c1 c2 c3 c4
        go_loopw [10] (fun i wx => ∃ (m : Nat), i = .int .i64 ((x : Int) + (m : Int)) ∧ m ≤ y ∧ Blk wx F #[.int .i64 n, .slice (some ⟨g, 0, none⟩) (zerosL n).length cz] 120 ∧ Blk wx w.heap.size #[.int .i64 0] 28 ∧ ByAt wx g (fillL S x m) ∧ New w wx) (fun i _ => x + y - (intOf i).toNat)
        case atStart => exact ⟨0, by simp, by omega, HFX.out, HEX.out, HBX.out, HNX.out⟩
        case round =>
          clear HEX HFX HNX HBX
          obtain ⟨m, rfl, hm, hf, he, hby, hn'⟩ := hrel
          have HFM := hid hf; have HEM := hid he; have HBM := hid hby; have HNM := hid hn'
          clear he hby hn'
          by_cases hmy : m < y
          · have hmI : (x : Int) + (m : Int) < (x : Int) + (y : Int) := by omega
            have hf0 := hf.cellv 0 rfl; have hf1 := hf.cellv 1 rfl
            have HSE := hid (fun W (q : ByAt W g (fillL S x m)) => bset_any (n : Int) g cz (fillL S x m) (x + m) true W q (by rw [fill_len, HSL.out]; omega) (by rw [fill_len, HSL.out]; omega))
            rw [fill_len, ← HZL.out, show ((x + m : Nat) : Int) = (x : Int) + (m : Int) by omega] at HSE
            have hFl := hf.lt
            clear hf
            go_wp2_with fail
            refine (HSE.out _ HBM.out).mono ?_
            rintro e w5 ⟨rfl, hb5, m5⟩
            have HB5 := hid hb5
            have HM5 := hid m5
            have hFg : F ≠ g := by omega
            have HF5 := hid (m5.blk HFM.out hFg)
            have HE5 := hid (m5.blk HEM.out (by omega))
            have HN5 : Hid (New w w5) := hid (HNM.out.trans' m5 (fun q hq1 hq2 => by omega))
            clear hb5 m5 hf0 hf1
            go_wp2
            exact ⟨⟨m + 1, by first | (congr 1; done) | (congr 1; omega), by omega, HF5.out, HE5.out, HB5.out, HN5.out⟩, by simp [intOf]; omega⟩
          · obtain rfl : m = y := by omega
            clear hf
            have HNS := hid (frS_next HFS.out HST.out)
            rw [← HTK.out] at HNS
            go_wp2
            exact ⟨⟨k + 1, (x : Int) + (m : Int), fillL S x m, by simp, rfl, by omega, by have := HNS.out; simpa using this, by omega, by omega, HFM.out, HEM.out, HBM.out, HNM.out⟩, by simp [intOf]; omega⟩
    · obtain rfl : k = U.length := by omega
      have HX : Hid (X = .ok S) := hid (by rw [HXX.out]; exact frR_ok (st := (E, S)) (by rw [← HFS.out, List.take_length]))
      have f0 := hf.cellv 0 rfl; have f1 := hf.cellv 1 rfl
      have HT := HB.out.text (zerosL n).length cz hzl
      have e0 := HE.out.cellv 0 rfl; have el := HE.out.lt; have ef := HE.out.frz 0
      clear hf hSl hzl
      go_wp2
      refine leaves_cons (f := 98) (args := #[.pointer (some ⟨w.heap.size, 0, none⟩)]) (by simp) (by simp [go_sem]) ?_
      refine (bcaught_idle ⟨w.heap.size, 0, none⟩ _).mono ?_
      rintro e u' w3 ⟨rfl, rfl, rfl⟩
      have q1 : (wr.setCell ⟨w.heap.size, 0, none⟩ (.int .i64 0)).cell? ⟨w.heap.size, 0, none⟩ = some (.int .i64 0) := (HE.out.set 0 (.int .i64 0)).cellv 0 rfl
      refine ⟨.tuple #[.string ⟨S.toArray⟩, .int .i64 0], by simp [results, Tryz.results39, go_sem, q1], by rw [HX.out]; rfl, ?_⟩
      exact Mod.set HN.out _ _ (.inr (Nat.le_refl _))
end Go.Proofs.YtbgmkplpolgebaaGreatDoor

namespace Go.Proofs.YtbgmkplpolgebaaGreatDoor
set_option linter.unusedSimpArgs false
set_option linter.unusedVariables false
open Go.RowKit Go.Shelf

theorem make_bools (n : Nat) (h : n ≤ 65536) (w : World) : (Instr.makeSlice 129 (.int .i64 n) (.int .i64 n)).run Tryz.prog w = .ok (.slice (some ⟨w.heap.size, 0, none⟩) n n) (w.alloc (.cells (Array.replicate n (.bool false)) 4)) := by
  obtain ⟨i0, hi, hz0, hz1, hz2⟩ := info_parts info_boolB
  have hr := run_makeSlice (P := Tryz.prog) w 129 4 i0 _ Tryz.underlying129 hi hz0 .i64 .i64 n n (by omega) (by omega) (by rw [hz1]; omega) (by rw [hz2]; omega) (by omega)
  rw [hr, hz1, Nat.mul_one, made_oneR _ _ rfl]
  simp
theorem bitV_at (S : List UInt8) {n i : Nat} (h : i < n) : ((bitV S n).toArray)[i]? = some (.bool (bitL S i)) := by
  unfold bitV
  simp [h]
theorem bytes_zero (K : Nat) : Array.replicate K (Value.int .u8 0) = (byV (List.replicate K (0 : UInt8))).toArray := by
  unfold byV
  rw [List.map_replicate]
  simp
theorem byV_at (l : List UInt8) {i : Nat} (h : i < l.length) : ((byV l).toArray)[i]? = some (.int .u8 (l[i].toNat : Int)) := by
  unfold byV
  simp [h]
theorem byV_set (l : List UInt8) (i : Nat) (b : UInt8) : ((byV l).toArray).setIfInBounds i (.int .u8 (b.toNat : Int)) = (byV (l.set i b)).toArray := by
  unfold byV
  rw [List.setIfInBounds_toArray, List.map_set]
set_option maxRecDepth 100000 in
set_option maxHeartbeats 8000000 in
theorem rFieldC_any (n g c : Nat) (S : List UInt8) (w : World) (hS : FieldOf n S) (hn : n ≤ 4096) (hc : n ≤ c) (hc2 : c ≤ maxLen) (h : ∀ k, k < n → w.cell? ⟨g, k, none⟩ = some (.bool (bitL S k))) (hgl : g < w.heap.size) :
    Calls Tryz.prog 106 #[.slice (some ⟨g, 0, none⟩) n c] w fun e w' => e = .returned (.string ⟨S.toArray⟩) ∧ New w w' := by
  have hl := hS.len
  have HL := hid (fun W => rlong_any n W hn)
  rw [← hl] at HL
  have HG := hid h
  have hKs : S.length ≤ 512 := by omega
  have hn8 : n ≤ 8 * S.length := by omega
  have HREST := hid hS.rest
  have hmk := fun W => make_bytesR S.length (by omega) W
  unfold maxLen at hc2
  clear h hl hS
  go_enter Tryz.func106, Tryz.ntmps106
  go_wp2_with fail
  refine (HL.out _).mono ?_
  rintro e w1 ⟨rfl, rfl⟩
  go_wp2
  clear hmk
  have HB0 : Hid (Blk (w.alloc (.cells (Array.replicate S.length (.int .u8 0)) 5)) w.heap.size (byV (stF S 0)).toArray 5) := hid (by rw [stF_zero, ← bytes_zero]; exact Blk.new _ _ _)
  have HN0 := hid ((Mod.refl _ w).alloc (.cells (Array.replicate S.length (.int .u8 0)) 5) : New w _)
  obtain ⟨w1, hw1⟩ : ∃ w1, w1 = w.alloc (.cells (Array.replicate S.length (.int .u8 0)) 5) := ⟨_, rfl⟩
  rw [← hw1] at HB0 HN0
  rw [← hw1]
  clear hw1
  go_loopw [12] (fun i wr => ∃ (k : Nat), i = .int .i64 k ∧ k ≤ 8 * S.length ∧ Blk wr w.heap.size (byV (stF S k)).toArray 5 ∧ New w wr) (fun i _ => 8 * S.length - (intOf i).toNat)
  case atStart => exact ⟨0, rfl, by omega, HB0.out, HN0.out⟩
  case round =>
    clear HB0 HN0
    obtain ⟨k, rfl, hk, hB, hN⟩ := hrel
    have HB := hid hB; have HN := hid hN
    clear hB hN
    by_cases hlt : k < 8 * S.length
    · have hltI : (k : Int) < 8 * (S.length : Int) := by omega
      have hk8 : k / 8 < S.length := by omega
      obtain ⟨h127, hst⟩ := stF_step S k hk8
      have hq : ((k : Int)).tdiv 8 = ((k / 8 : Nat) : Int) := by rw [Int.tdiv_eq_ediv_of_nonneg (by omega)]; omega
      have hq2 : (k : Int) / 8 = ((k / 8 : Nat) : Int) := by omega
      have hkl : k / 8 < (stF S k).length := by rw [stF_len]; exact hk8
      have b0 := HB.out.cellv _ (byV_at (stF S k) hkl)
      have bl := HB.out.lt; have bf := HB.out.frz (k / 8)
      obtain ⟨K, hK⟩ : ∃ K, K = k / 8 := ⟨_, rfl⟩
      have hkI : (K : Int) < (S.length : Int) := by omega
      obtain ⟨y, hy⟩ : ∃ y, y = ((stF S k)[k / 8]'hkl).toNat := ⟨_, rfl⟩
      rw [← hy] at b0 h127 hst
      rw [← hK] at hq hq2 b0 bf hst
      have hw1 : IntKind.u8.wrap ((y : Int) * 2) = 2 * (y : Int) := by rw [IntKind.wrap_u8]; omega
      have hw2 : IntKind.u8.wrap (2 * (y : Int) + 1) = 2 * (y : Int) + 1 := by rw [IntKind.wrap_u8]; omega
      have HST := hid hst
      have b1 : (wr.setCell ⟨w.heap.size, K, none⟩ (.int .u8 (2 * (y : Int)))).cell? ⟨w.heap.size, K, none⟩ = some (.int .u8 (2 * (y : Int))) := by
        refine (HB.out.set K (.int .u8 (2 * (y : Int)))).cellv K ?_
        rw [Array.getElem?_setIfInBounds, if_pos rfl, if_pos (by unfold byV; simp; rw [stF_len]; omega)]
      have u2 : (2 * (y : Int)) = ((UInt8.ofNat (2 * y)).toNat : Int) := by rw [UInt8.toNat_ofNat']; omega
      have u3 : (2 * (y : Int) + 1) = ((UInt8.ofNat (2 * y + 1)).toNat : Int) := by rw [UInt8.toNat_ofNat']; omega
      have HU2 := hid u2
      have HU3 := hid u3
      clear hst hK hy u2 u3 hkl
      by_cases hkn : k < n
      · have hknI : (k : Int) < (n : Int) := by omega
        have hdn : decide ((k : Int) < (n : Int)) = true := decide_eq_true hknI
        have g0 := New.cellv (p := ⟨g, k, none⟩) HN.out (HG.out k hkn)
        have g1 : (wr.setCell ⟨w.heap.size, K, none⟩ (.int .u8 (2 * (y : Int)))).cell? ⟨g, k, none⟩ = some (.bool (bitL S k)) := by
          rw [World.cell?_setCell_other _ _ _ _ (by first | (simp; done) | (simp; omega))]
          exact g0
        cases hb : bitL S k with
        | true =>
          rw [hb] at g1
          rw [hb, show bitN true = 1 from rfl] at HST
          have HE : Hid (Blk ((wr.setCell ⟨w.heap.size, K, none⟩ (.int .u8 (2 * (y : Int)))).setCell ⟨w.heap.size, K, none⟩ (.int .u8 (2 * (y : Int) + 1))) w.heap.size (byV (stF S (k + 1))).toArray 5) := hid (by
            have h1 := (HB.out.set K (.int .u8 (2 * (y : Int)))).set K (.int .u8 (2 * (y : Int) + 1))
            rw [HU2.out, byV_set, ← HU2.out, HU3.out, byV_set, List.set_set, HST.out] at h1
            rw [HU2.out, ← HU2.out, HU3.out]
            exact h1)
          clear hb g0
          go_wp2
          exact ⟨⟨k + 1, by simp, by omega, HE.out, Mod.set (Mod.set HN.out _ _ (.inr (Nat.le_refl _))) _ _ (.inr (Nat.le_refl _))⟩, by simp [intOf]; omega⟩
        | false =>
          rw [hb] at g1
          rw [hb, show bitN false = 0 from rfl, Nat.add_zero] at HST
          have HE : Hid (Blk (wr.setCell ⟨w.heap.size, K, none⟩ (.int .u8 (2 * (y : Int)))) w.heap.size (byV (stF S (k + 1))).toArray 5) := hid (by
            have h1 := HB.out.set K (.int .u8 (2 * (y : Int)))
            rw [HU2.out, byV_set, HST.out] at h1
            rw [HU2.out]
            exact h1)
          clear hb g0
          go_wp2
          exact ⟨⟨k + 1, by simp, by omega, HE.out, Mod.set HN.out _ _ (.inr (Nat.le_refl _))⟩, by simp [intOf]; omega⟩
      · have hknI : ¬ (k : Int) < (n : Int) := by omega
        have hdn : decide ((k : Int) < (n : Int)) = false := decide_eq_false hknI
        rw [HREST.out k (by omega), show bitN false = 0 from rfl, Nat.add_zero] at HST
        have HE : Hid (Blk (wr.setCell ⟨w.heap.size, K, none⟩ (.int .u8 (2 * (y : Int)))) w.heap.size (byV (stF S (k + 1))).toArray 5) := hid (by
          have h1 := HB.out.set K (.int .u8 (2 * (y : Int)))
          rw [HU2.out, byV_set, HST.out] at h1
          rw [HU2.out]
          exact h1)
        go_wp2
        exact ⟨⟨k + 1, by simp, by omega, HE.out, Mod.set HN.out _ _ (.inr (Nat.le_refl _))⟩, by simp [intOf]; omega⟩
    · obtain rfl : k = 8 * S.length := by omega
      rw [stF_end] at HB
      have hT := (ByAt.of_blk (s := S) HB.out (by unfold byV; simp) (fun i hi => byV_at S hi)).text S.length S.length rfl
      go_wp2
      go_ret
      exact ⟨rfl, HN.out⟩
theorem rField_any (n g c : Nat) (S : List UInt8) (w : World) (hS : FieldOf n S) (hn : n ≤ 4096) (hc : n ≤ c) (hc2 : c ≤ 65536) (h : Blk w g (bitV S n).toArray 4) :
    Calls Tryz.prog 106 #[.slice (some ⟨g, 0, none⟩) n c] w fun e w' => e = .returned (.string ⟨S.toArray⟩) ∧ New w w' :=
  rFieldC_any n g c S w hS hn hc (by unfold maxLen; omega) (fun k hk => h.cellv k (bitV_at S hk)) h.lt
end Go.Proofs.YtbgmkplpolgebaaGreatDoor

namespace Go.Proofs.YtbgmkplpolgebaaGreatDoor
set_option linter.unusedSimpArgs false
set_option linter.unusedVariables false
open Go.RowKit Go.Shelf

theorem bools_zero (n : Nat) : Array.replicate n (Value.bool false) = (bitV (zerosL n) n).toArray := by
  apply Array.ext
  · rw [Array.size_replicate]
    show n = (bitV (zerosL n) n).toArray.size
    simp [bitV_len]
  · intro i h1 h2
    rw [Array.size_replicate] at h1
    have := bitV_at (zerosL n) h1
    rw [Array.getElem_replicate]
    rw [Array.getElem?_eq_getElem h2] at this
    injection this with this
    rw [this]
    unfold zerosL
    rw [bitL_zero]
theorem bitV_set {n : Nat} {S : List UInt8} (hS : FieldOf n S) {j : Nat} (hj : j < n) : ((bitV S n).toArray).setIfInBounds j (.bool true) = (bitV (setL S j true) n).toArray := by
  apply Array.ext_getElem?
  intro i
  rw [Array.getElem?_setIfInBounds]
  by_cases hi : i < n
  · rw [bitV_at _ hi, bitV_at _ hi, hS.bit_set hj]
    by_cases e : j = i
    · subst e
      rw [if_pos rfl, if_pos (by simp [bitV_len]; omega), if_pos rfl]
    · rw [if_neg e, if_neg (fun q => e q.symm)]
  · have e : j ≠ i := by omega
    rw [if_neg e, Array.getElem?_eq_none (by simp [bitV_len]; omega), Array.getElem?_eq_none (by simp [bitV_len]; omega)]
set_option maxRecDepth 100000 in
set_option maxHeartbeats 8000000 in
theorem rFrom_any (n : Nat) (U : List (Int × Int)) (v : Value) (w : World) (h : RunsAt w v U) (hn : n ≤ 4096) :
    Calls Tryz.prog 43 #[.int .i64 n, v] w fun e w' => e = frE (frR n U) ∧ New w w' := by
  obtain ⟨a, c, rfl, hc1, hc2, hU⟩ := h
  unfold maxLen at hc2
  have HU := hid hU
  have HR := hid (fun W => rright_any n W hn)
  have hmk := fun W => make_bools n (by omega) W
  obtain ⟨X, hX⟩ : ∃ X, X = frR n U := ⟨_, rfl⟩
  rw [← hX]
  have HXX := hid hX
  clear hU hX
  go_enter Tryz.func43, Tryz.ntmps43
  go_wp2_with fail
  refine (HR.out _).mono ?_
  rintro e w1 ⟨rfl, rfl⟩
  go_wp2
  clear hmk
  have HG0 : Hid (Blk (w.alloc (.cells (Array.replicate n (.bool false)) 4)) w.heap.size (bitV (zerosL n) n).toArray 4) := hid (by rw [bools_zero]; exact Blk.new _ _ _)
  have HN0 := hid ((Mod.refl _ w).alloc (.cells (Array.replicate n (.bool false)) 4) : New w _)
  obtain ⟨w1, hw1⟩ : ∃ w1, w1 = w.alloc (.cells (Array.replicate n (.bool false)) 4) := ⟨_, rfl⟩
  rw [← hw1] at HG0 HN0
  rw [← hw1]
  clear hw1
  go_loopw [18, 7] (fun i o wr => ∃ (k : Nat) (E : Int) (S : List UInt8), i = .int .i64 k ∧ o = .int .i64 E ∧ k ≤ U.length ∧ frS n (U.take k) (0, zerosL n) = .ok (E, S) ∧ 0 ≤ E ∧ E ≤ n ∧ Blk wr w.heap.size (bitV S n).toArray 4 ∧ New w wr) (fun i _ _ => U.length - (intOf i).toNat)
  case atStart => exact ⟨0, 0, zerosL n, rfl, rfl, by omega, by rw [List.take_zero]; rfl, by omega, by omega, HG0.out, HN0.out⟩
  case round =>
    clear HG0 HN0
    obtain ⟨k, E, S, rfl, rfl, hk, hfs, hE0, hE1, hb, hn'⟩ := hrel
    have HFS := hid hfs; have HB := hid hb; have HN := hid hn'
    have HSF := hid (frS_field _ _ _ (FieldOf.zero n) hfs)
    clear hfs hb hn'
    by_cases hlt : k < U.length
    · have hltI : (k : Int) < (U.length : Int) := by omega
      rcases HU.out with hnil | ⟨bb, oo, rfl, hbb, hcc⟩
      · rw [hnil] at hlt; simp at hlt
      · obtain ⟨g0, g1⟩ := hcc k hlt
        have g0 := HN.out.cellv g0
        have g1 := HN.out.cellv g1
        have HALL := hid (lst_all hlt)
        have HTK := hid (lst_next hlt)
        obtain ⟨r, hr⟩ : ∃ r, r = U[k] := ⟨_, rfl⟩
        rw [← hr] at g0 g1 HALL HTK
        clear hcc hr
        by_cases b1 : r.2 < 1
        · have HX : Hid (X = .error 7) := hid (by rw [HXX.out, HALL.out]; exact frR_bad HFS.out (by unfold frStep; rw [if_pos (by (simp [runBad, b1]))]))
          go_wp2_with fail
          go_ret2
          exact ⟨by rw [HX.out]; rfl, HN.out.alloc _⟩
        have c1 : decide (r.2 < 1) = false := decide_eq_false b1
        by_cases b2 : r.1 < 0
        · have HX : Hid (X = .error 7) := hid (by rw [HXX.out, HALL.out]; exact frR_bad HFS.out (by unfold frStep; rw [if_pos (by (simp [runBad, b2]))]))
          go_wp2_with fail
          go_ret2
          exact ⟨by rw [HX.out]; rfl, HN.out.alloc _⟩
        have c2 : decide (r.1 < 0) = false := decide_eq_false b2
        by_cases b3 : (n : Int) < r.1
        · have HX : Hid (X = .error 7) := hid (by rw [HXX.out, HALL.out]; exact frR_bad HFS.out (by unfold frStep; rw [if_pos (by (simp [runBad, b3]))]))
          go_wp2_with fail
          go_ret2
          exact ⟨by rw [HX.out]; rfl, HN.out.alloc _⟩
        have c3 : decide ((n : Int) < r.1) = false := decide_eq_false b3
        by_cases b4 : (n : Int) - r.1 < r.2
        · have HX : Hid (X = .error 7) := hid (by rw [HXX.out, HALL.out]; exact frR_bad HFS.out (by unfold frStep; rw [if_pos (by (simp [runBad, b4]))]))
          go_wp2_with fail
          go_ret2
          exact ⟨by rw [HX.out]; rfl, HN.out.alloc _⟩
        have c4 : decide ((n : Int) - r.1 < r.2) = false := decide_eq_false b4
        have HRB := hid (show ¬ runBad n r = true by simp [runBad]; omega)
        by_cases b5 : r.1 < E
        · have HX : Hid (X = .error 6) := hid (by rw [HXX.out, HALL.out]; exact frR_bad HFS.out (by unfold frStep; rw [if_neg HRB.out, if_pos b5]))
          have d5 : decide (r.1 < E) = true := decide_eq_true b5
          go_wp2_with fail
          go_ret2
          exact ⟨by rw [HX.out]; rfl, HN.out.alloc _⟩
        have d5 : decide (r.1 < E) = false := decide_eq_false b5
        obtain ⟨x, hx⟩ : ∃ x : Nat, r.1 = (x : Int) := ⟨r.1.toNat, by omega⟩
        obtain ⟨y, hy⟩ : ∃ y : Nat, r.2 = (y : Int) := ⟨r.2.toNat, by omega⟩
        have HST := hid (show frStep n (E, S) r = .ok (r.1 + r.2, fillL S x y) by unfold frStep; rw [if_neg HRB.out, if_neg b5, hx, hy]; rfl)
        rw [hx] at g0 HST b2 b3 b4 b5 c2 c3 c4 d5
        rw [hy] at g1 HST b1 b4 c1 c4
        have hxy : x + y ≤ n := by omega
        have hwx : IntKind.i64.wrap ((x : Int) + (y : Int)) = (x : Int) + (y : Int) := by rw [IntKind.wrap_i64]; omega
        clear hx hy
        go_wp2_with fail
        have HGX := hid (HB.out.alloc (.cells #[.int .i64 (x : Int), .int .i64 (y : Int)] 66))
        have HNX := hid (HN.out.alloc (.cells #[.int .i64 (x : Int), .int .i64 (y : Int)] 66))
        obtain ⟨WX, hWX⟩ : ∃ WX, WX = wr.alloc (.cells #[.int .i64 (x : Int), .int .i64 (y : Int)] 66) := ⟨_, rfl⟩
        rw [← hWX] at HGX HNX
        rw [← hWX]
        clear hWX g0 g1 hwx d5 c1 c2 c3 c4
        go_loopw [10] (fun i wx => ∃ (m : Nat), i = .int .i64 ((x : Int) + (m : Int)) ∧ m ≤ y ∧ Blk wx w.heap.size (bitV (fillL S x m) n).toArray 4 ∧ New w wx) (fun i _ => x + y - (intOf i).toNat)
        case atStart => exact ⟨0, by simp, by omega, HGX.out, HNX.out⟩
        case round =>
          clear HGX HNX
          obtain ⟨m, rfl, hm, hb, hn'⟩ := hrel
          have HBM := hid hb; have HNM := hid hn'
          clear hb hn'
          by_cases hmy : m < y
          · have hmI : (x : Int) + (m : Int) < (x : Int) + (y : Int) := by omega
            have hbs := HBM.out.set (x + m) (.bool true)
            rw [bitV_set (fill_field HSF.out x m (by omega)) (by omega)] at hbs
            have HBS := hid (show Blk (wr.setCell ⟨w.heap.size, x + m, none⟩ (.bool true)) w.heap.size (bitV (fillL S x (m + 1)) n).toArray 4 from hbs)
            have bl := HBM.out.lt; have bf := HBM.out.frz (x + m)
            have b0 := HBM.out.cellv (x + m) (bitV_at (fillL S x m) (show x + m < n by omega))
            have hxn : (x : Int) + (m : Int) < (n : Int) := by omega
            have hxt : ((x : Int) + (m : Int)).toNat = x + m := by omega
            have hx0 : (0 : Int) ≤ (x : Int) + (m : Int) := by omega
            clear hbs
            go_wp2_with fail
            exact ⟨⟨m + 1, by first | (congr 1; done) | (congr 1; omega), by omega, HBS.out, Mod.set HNM.out _ _ (.inr (Nat.le_refl _))⟩, by simp [intOf]; omega⟩
          · obtain rfl : m = y := by omega
            have HNS := hid (frS_next HFS.out HST.out)
            rw [← HTK.out] at HNS
            go_wp2
            exact ⟨⟨k + 1, (x : Int) + (m : Int), fillL S x m, by simp, rfl, by omega, by have := HNS.out; simpa using this, by omega, by omega, HBM.out, HNM.out⟩, by simp [intOf]; omega⟩
    · obtain rfl : k = U.length := by omega
      have HX : Hid (X = .ok S) := hid (by rw [HXX.out]; exact frR_ok (st := (E, S)) (by rw [← HFS.out, List.take_length]))
      have HF := hid (rField_any n w.heap.size n S wr HSF.out hn (Nat.le_refl _) (by omega) HB.out)
      go_wp2_with fail
      refine HF.out.mono ?_
      rintro e w2 ⟨rfl, n2⟩
      have N2 := hid (HN.out.trans n2)
      clear n2
      go_wp2
      go_ret2
      exact ⟨by rw [HX.out]; rfl, N2.out⟩
end Go.Proofs.YtbgmkplpolgebaaGreatDoor
