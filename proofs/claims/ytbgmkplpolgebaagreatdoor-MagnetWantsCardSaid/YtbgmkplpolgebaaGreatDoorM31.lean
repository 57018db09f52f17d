/-
  Several texts in one, in their build order. slices.IndexFunc with Wants$1: where the first number lies that is too great. Condition: the list lies as told. slices.DeleteFunc with Wants$1 on numbers in order: the numbers below a bound. Conditions: the list is its own; at most 4096 numbers. The walk of Full (package bits). Condition: at most 4096 bits.
-/
import Derived.Test.YtbgmkplpolgebaaGreatDoorM8
import Derived.Test.YtbgmkplpolgebaaGreatDoorM30
import Derived.Lib.SliceRun
import Derived.Test.YtbgmkplpolgebaaGreatDoorM18
namespace Go.Proofs.YtbgmkplpolgebaaGreatDoor
set_option linter.unusedSimpArgs false
set_option linter.unusedVariables false
open Go.RowKit Go.Shelf

abbrev fnWant (C : Nat) : Value := .func (.func 49) #[] #[.pointer (some ⟨C, 0, none⟩)]
theorem want1_any (C : Nat) (x F : Int) (w : World) (hc : w.cell? ⟨C, 0, none⟩ = some (.int .i64 F)) : Calls Tryz.prog 49 #[.int .i64 x, .pointer (some ⟨C, 0, none⟩)] w fun e w' => e = .returned (.bool (decide (x ≥ F))) ∧ w = w' := by
  by_cases h : x ≥ F
  · have h1 : F ≤ x := h
    have HD := hid (decide_eq_true h)
    clear h
    go_enter Tryz.func49, Tryz.ntmps49
    go_wp2
    go_ret
    exact ⟨by rw [HD.out] <;> simp [h1], rfl⟩
  · have h1 : ¬ F ≤ x := h
    have HD := hid (decide_eq_false h)
    clear h
    go_enter Tryz.func49, Tryz.ntmps49
    go_wp2
    go_ret
    exact ⟨by rw [HD.out] <;> simp [h1], rfl⟩
set_option maxHeartbeats 1000000 in
theorem widx_any (C g c : Nat) (F : Int) (N : List Nat) (w : World) (h : ∀ (i : Nat) (hi : i < N.length), w.cell? ⟨g, i, none⟩ = some (.int .i64 ((N[i] : Nat) : Int))) (hl : N.length ≤ 4096) (hN : N.length ≤ c) (hf : w.cell? ⟨C, 0, none⟩ = some (.int .i64 F)) :
    Calls Tryz.prog 110 #[.slice (some ⟨g, 0, none⟩) N.length c, fnWant C] w fun e w' => (∃ (k : Nat) (hk : k < N.length), e = .returned (.int .i64 k) ∧ F ≤ (N[k] : Int) ∧ ∀ (j : Nat) (hj : j < N.length), j < k → (N[j] : Int) < F) ∧ w = w' ∨ (e = .returned (.int .i64 (-1)) ∧ ∀ (j : Nat) (hj : j < N.length), (N[j] : Int) < F) ∧ w = w' := by
  have HX := hid hf
  have HC1 := hid h
  clear h hf
  go_enter Tryz.func110, Tryz.ntmps110
  go_wp2
  go_loopw [8] (fun i wr => ∃ k : Nat, i = .int .i64 k ∧ k ≤ N.length ∧ (∀ (j : Nat) (hj : j < N.length), j < k → (N[j] : Int) < F) ∧ wr = w) (fun i _ => N.length - (intOf i).toNat)
  case atStart => exact ⟨0, rfl, by omega, by intros; omega, rfl⟩
  case round =>
    obtain ⟨k, rfl, hk, hb, rfl⟩ := hrel
    have HB := hid hb
    clear hb
    by_cases hlt : k < N.length
    · have g1 := HC1.out k hlt
      have HP := hid (want1_any C (N[k] : Int) F wr HX.out)
      by_cases he : F ≤ (N[k] : Int)
      · rw [decide_eq_true (show (N[k] : Int) ≥ F from he)] at HP
        have HE := hid he
        clear he
        go_wp2_with (go_at_call 49; refine HP.out.mono ?_; rintro e w1 ⟨rfl, rfl⟩)
        go_ret
        exact .inl ⟨⟨k, hlt, rfl, HE.out, HB.out⟩, rfl⟩
      · rw [decide_eq_false (show ¬ (N[k] : Int) ≥ F from he)] at HP
        have HE := hid he
        clear he
        go_wp2_with (go_at_call 49; refine HP.out.mono ?_; rintro e w1 ⟨rfl, rfl⟩)
        exact ⟨⟨k + 1, by simp, by omega, fun j hj q => by
          rcases Nat.lt_succ_iff_lt_or_eq.1 q with q | q
          · exact HB.out j hj q
          · subst q
            have := HE.out
            omega, by first | rfl | trivial⟩, by simp [intOf]; omega⟩
    · go_wp2
      go_ret
      exact .inr ⟨⟨rfl, fun j hj => HB.out j hj (by omega)⟩, rfl⟩
end Go.Proofs.YtbgmkplpolgebaaGreatDoor

namespace Go.Proofs.YtbgmkplpolgebaaGreatDoor
set_option linter.unusedSimpArgs false
set_option linter.unusedVariables false
open Go.RowKit Go.Shelf

/-- Numbers in a list that can be read. -/
structure NmAt (w : World) (a : Option Addr) (c : Nat) (N : List Nat) : Prop where
  room : N.length ≤ c
  cap : c ≤ maxLen
  at' : N = [] ∨ ∃ b, a = some ⟨b, 0, none⟩ ∧ b < w.heap.size ∧ ∀ (i : Nat) (hi : i < N.length), w.cell? ⟨b, i, none⟩ = some (.int .i64 ((N[i] : Nat) : Int))
theorem NmAt.new {w w' : World} {a : Option Addr} {c : Nat} {N : List Nat} (h : NmAt w a c N) (n : New w w') : NmAt w' a c N := by
  refine ⟨h.room, h.cap, ?_⟩
  rcases h.at' with q | ⟨b, e, hb, hc⟩
  · exact .inl q
  · exact .inr ⟨b, e, Nat.lt_of_lt_of_le hb n.size, fun i hi => n.cellv (hc i hi)⟩
theorem filter_none {N : List Nat} {F : Int} (h : ∀ (j : Nat) (hj : j < N.length), (N[j] : Int) < F) : N.filter (fun (i : Nat) => decide ((i : Int) < F)) = N := by
  rw [List.filter_eq_self]
  intro x hx
  obtain ⟨j, hj, rfl⟩ := List.mem_iff_getElem.1 hx
  exact decide_eq_true (h j hj)
theorem filter_cut {N : List Nat} {F : Int} {k : Nat} (hs : N.Pairwise (· < ·)) (hk : k < N.length) (h1 : F ≤ (N[k] : Int)) (h : ∀ (j : Nat) (hj : j < N.length), j < k → (N[j] : Int) < F) :
    N.filter (fun (i : Nat) => decide ((i : Int) < F)) = N.take k ∧ ∀ (j : Nat) (hj : j < N.length), k ≤ j → F ≤ (N[j] : Int) := by
  have hg : ∀ (j : Nat) (hj : j < N.length), k ≤ j → F ≤ (N[j] : Int) := fun j hj q => by
    rcases Nat.lt_or_eq_of_le q with q | q
    · have := List.pairwise_iff_getElem.1 hs k j hk hj q
      omega
    · subst q
      exact h1
  refine ⟨?_, hg⟩
  have a1 : (N.take k).filter (fun (i : Nat) => decide ((i : Int) < F)) = N.take k := by
    rw [List.filter_eq_self]
    intro x hx
    obtain ⟨j, hj, rfl⟩ := List.mem_iff_getElem.1 hx
    rw [List.length_take] at hj
    rw [List.getElem_take]
    exact decide_eq_true (h j (by omega) (by omega))
  have a2 : (N.drop k).filter (fun (i : Nat) => decide ((i : Int) < F)) = [] := by
    rw [List.filter_eq_nil_iff]
    intro x hx
    obtain ⟨j, hj, rfl⟩ := List.mem_iff_getElem.1 hx
    rw [List.length_drop] at hj
    rw [List.getElem_drop]
    have := hg (k + j) (by omega) (by omega)
    rw [decide_eq_true_iff]
    omega
  have e := List.filter_append (p := fun (i : Nat) => decide ((i : Int) < F)) (N.take k) (N.drop k)
  rw [List.take_append_drop, a1, a2, List.append_nil] at e
  exact e
theorem modCells (g : Nat) : ∀ (vs : List Value) (o : Nat) (w : World), Mod (fun j => j = g) w (w.setCells g o vs)
  | [], o, w => Mod.refl _ _
  | v :: vs, o, w => ((Mod.refl (fun j => j = g) w).set ⟨g, o, none⟩ v (.inl rfl)).trans (modCells g vs (o + 1) (w.setCell ⟨g, o, none⟩ v))
theorem blkCells {g : Nat} {t : TypeId} : ∀ (vs : List Value) (o : Nat) (w : World) (cs : Array Value), Blk w g cs t → ∃ cs', Blk (w.setCells g o vs) g cs' t ∧ ∀ j, j < o → cs'[j]? = cs[j]?
  | [], o, w, cs, h => ⟨cs, h, fun _ _ => rfl⟩
  | v :: vs, o, w, cs, h => by
    obtain ⟨cs', h1, h2⟩ := blkCells vs (o + 1) (w.setCell ⟨g, o, none⟩ v) _ (h.set o v)
    exact ⟨cs', h1, fun j hj => by rw [h2 j (by omega), Array.getElem?_setIfInBounds_ne (by omega)]⟩
theorem OwnC.blkI {w : World} {base : Nat} {v : Value} {N : List Nat} (h : OwnC w 3 base v (numV N)) (hn : 0 < N.length) : ∃ g c cs, v = .slice (some ⟨g, 0, none⟩) N.length c ∧ N.length ≤ c ∧ c ≤ maxLen ∧ base ≤ g ∧ Blk w g cs 3 ∧ ∀ (j : Nat) (hj : j < N.length), cs[j]? = some (.int .i64 ((N[j] : Nat) : Int)) := by
  have hl : (numV N).length = N.length := by unfold numV; simp
  have h0 : w.ownsRow base 3 1 v (numV N).length (numV N) := h
  rw [hl] at h0
  rcases h0.2 with ⟨-, q⟩ | ⟨g, cap, cur, rfl, hbg, hg, hnc, hcm, hcs, htake⟩
  · omega
  · refine ⟨g, cap, cur, rfl, hnc, hcm, hbg, hg, fun j hj => ?_⟩
    have e : (cur.toList.take (N.length * 1))[j]? = some (.int .i64 ((N[j] : Nat) : Int)) := by
      rw [htake]
      unfold numV
      simp [hj]
    rw [List.getElem?_take, if_pos (by omega)] at e
    simpa using e
set_option maxRecDepth 100000 in
set_option maxHeartbeats 4000000 in
theorem delW_any (C base : Nat) (F : Int) (v : Value) (N : List Nat) (w : World) (h : OwnC w 3 base v (numV N)) (h0 : 0 < N.length) (hl : N.length ≤ 4096) (hs : N.Pairwise (· < ·)) (hf : w.cell? ⟨C, 0, none⟩ = some (.int .i64 F)) :
    Calls Tryz.prog 48 #[v, fnWant C] w fun e w' => ∃ g c, e = .returned (.slice (some ⟨g, 0, none⟩) (N.filter (fun (i : Nat) => decide ((i : Int) < F))).length c) ∧ NmAt w' (some ⟨g, 0, none⟩) c (N.filter (fun (i : Nat) => decide ((i : Int) < F))) ∧ Mod (fun j => base ≤ j) w w' := by
  obtain ⟨g, c, cs, rfl, hc1, hc2, hbg, hb, hcs⟩ := OwnC.blkI h h0
  have hcell : ∀ (i : Nat) (hi : i < N.length), w.cell? ⟨g, i, none⟩ = some (.int .i64 ((N[i] : Nat) : Int)) := fun i hi => hb.cellv i (hcs i hi)
  have HW := hid (widx_any C g c F N w hcell hl hc1 hf)
  have HB := hid hb; have HCS := hid hcs; have HCE := hid hcell; have HF := hid hf
  have HM := hid hc2
  unfold maxLen at hc2
  clear h hb hcs hcell hf
  go_enter Tryz.func48, Tryz.ntmps48
  go_wp2_with fail
  refine HW.out.mono ?_
  rintro e w1 (⟨⟨k, hk, rfl, hk1, hk2⟩, rfl⟩ | ⟨⟨rfl, hall⟩, rfl⟩)
  rotate_left
  · have HA := hid (filter_none hall)
    clear hall
    go_wp2
    go_ret
    refine ⟨g, c, by rw [HA.out] <;> rfl, ?_, Mod.refl _ _⟩
    rw [HA.out]
    exact ⟨hc1, HM.out, .inr ⟨g, rfl, HB.out.lt, HCE.out⟩⟩
  · obtain ⟨q1, q2⟩ := filter_cut hs hk hk1 hk2
    have HQ := hid q1; have HG := hid q2
    have hkm : ((k : Int) == -1) = false := by rw [beq_eq_false_iff_ne]; omega
    clear q1 q2 hs hk1 hk2 HW
    go_wp2_with fail
    go_loopw [5, 6] (fun i j wr => ∃ m : Nat, i = .int .i64 (k : Int) ∧ j = .int .i64 (m : Int) ∧ k < m ∧ m ≤ N.length ∧ wr = w) (fun _ j _ => N.length - (intOf j).toNat)
    case atStart => exact ⟨k + 1, rfl, by simp, by omega, by omega, rfl⟩
    case round =>
      obtain ⟨m, rfl, rfl, hm1, hm2, rfl⟩ := hrel
      by_cases hlt : m < N.length
      · have g1 := HCE.out m hlt
        have HP := hid (want1_any C (N[m] : Int) F wr HF.out)
        rw [decide_eq_true (show (N[m] : Int) ≥ F from HG.out m hlt (by omega))] at HP
        go_wp2_with (go_at_call 49; refine HP.out.mono ?_; rintro e w2 ⟨rfl, rfl⟩)
        exact ⟨⟨m + 1, rfl, by simp, by omega, by omega, by first | rfl | trivial⟩, by simp [intOf]; omega⟩
      · have hcl : ∀ ty, (Builtin.clear_ #[35] ty #[.slice (some ⟨g, k, none⟩) (N.length - k) (c - k)]).run Tryz.prog wr = .ok (.tuple #[]) (wr.setCells g k (List.replicate (N.length - k) (.int .i64 0))) :=
          fun ty => Lib.run_clear_slice wr _ 3 ty _ Tryz.underlying35 (fun _ => by kernel_rfl) rfl rfl g k _ _ (by omega) (fun j hj => by rw [HCE.out (k + j) (by omega)]; rfl) (fun j hj => HB.out.frz (k + j))
        go_wp2
        go_ret
        obtain ⟨cs', hb', hc'⟩ := blkCells (List.replicate (N.length - k) (.int .i64 0)) k wr _ HB.out
        have hkl : (N.take k).length = k := by rw [List.length_take]; omega
        have m := modCells g (List.replicate (N.length - k) (.int .i64 0)) k wr
        refine ⟨g, c, by rw [HQ.out, hkl] <;> rfl, ?_, ⟨m.os, m.tape, m.output, m.size, fun j hj hx => m.block j hj (fun q => hx (by omega))⟩⟩
        rw [HQ.out]
        refine ⟨by rw [hkl]; omega, HM.out, .inr ⟨g, rfl, hb'.lt, fun i hi => ?_⟩⟩
        rw [hkl] at hi
        rw [List.getElem_take]
        exact hb'.cellv i ((hc' i hi).trans (HCS.out i (by omega)))
end Go.Proofs.YtbgmkplpolgebaaGreatDoor

namespace Go.Proofs.YtbgmkplpolgebaaGreatDoor
set_option linter.unusedSimpArgs false
set_option linter.unusedVariables false
open Go.RowKit Go.Shelf

set_option maxRecDepth 100000 in
set_option maxHeartbeats 4000000 in
theorem bFull_any (n : Nat) (w : World) (hn : n ≤ 4096) :
    Calls Tryz.prog 46 #[.int .i64 n] w fun e w' => e = .returned (.tuple #[.string (mkB (fullL n)), .int .i64 0]) ∧ New w w' := by
  have HEM := hid (fun W => bempty_any n W hn)
  have hfd := fld_1
  have HZL := hid (show (zerosL n).length = (n + 7) / 8 by unfold zerosL; simp)
  go_enter_defers Tryz.func46, Tryz.ntmps46
  go_wp2_with fail
  refine (HEM.out _).mono ?_
  rintro e w1 ⟨g, cz, rfl, hby, hg, n1⟩
  have N1 : Hid (New w w1) := hid (((Mod.refl _ w).alloc (.cells #[.int .i64 0] 28) : New w _).trans n1)
  have E1 : Hid (Blk w1 w.heap.size #[.int .i64 0] 28) := hid (New.blk n1 (Blk.new _ _ _))
  have HBY := hid hby
  have hg1 : w.heap.size + 1 ≤ g := by simpa using hg
  have hg2 : g < w1.heap.size := hby.lt
  have hsz := N1.out.size
  have hel := E1.out.lt
  clear hby n1 hg HEM
  go_wp2_with fail
  refine name_worldZ (p := fun W => Code.wp _ _ _ _ W) (fun W2 hW2 => ?_)
  have F2 : Blk W2 w1.heap.size #[.int .i64 n, .slice (some ⟨g, 0, none⟩) (zerosL n).length cz] 120 := by
    rw [hW2]
    apply Blk.row
    · repeat (first | with_reducible exact E1.out | (with_reducible apply Blk.newAt; (simp; done)) | with_reducible apply Blk.alloc | with_reducible apply Blk.drew | with_reducible apply Blk.drewN | with_reducible apply Blk.set | (with_reducible apply Blk.other; · first | (simp; done) | (simp; omega) | omega) | (with_reducible apply Blk.putObj; · first | (simp; done) | (simp; omega) | omega))
    · rfl
  have N2 : New w1 W2 := by
    rw [hW2]
    repeat (first | with_reducible exact Mod.refl _ _ | with_reducible refine Mod.alloc ?_ _ | with_reducible refine Mod.drew ?_ | with_reducible refine Mod.drewN ?_ _ | (with_reducible refine Mod.set ?_ _ _ (by first | exact .inl rfl | (right; omega) | (right; simp; done) | (right; simp; omega) | (left; omega) | (left; simp; done) | (left; simp; omega))) | (with_reducible refine Mod.putObj ?_ _ _ (by first | exact .inl rfl | (right; omega) | (right; simp; done) | (right; simp; omega) | (left; omega) | (left; simp; done) | (left; simp; omega))))
  have HF2 := hid F2
  have HN2 := hid (N1.out.trans N2)
  have HE2 := hid (New.blk N2 E1.out)
  have HB2 := hid (HBY.out.new N2)
  obtain ⟨F, hF⟩ : ∃ F, F = w1.heap.size := ⟨_, rfl⟩
  rw [← hF] at HF2 hg2 hsz hel ⊢
  clear hW2 F2 N2 hF HBY E1 N1
  go_loopw [9] (fun i wx => ∃ (m : Nat), i = .int .i64 (m : Int) ∧ m ≤ n ∧ Blk wx F #[.int .i64 n, .slice (some ⟨g, 0, none⟩) (zerosL n).length cz] 120 ∧ Blk wx w.heap.size #[.int .i64 0] 28 ∧ ByAt wx g (fillL (zerosL n) 0 m) ∧ New w wx) (fun i _ => n - (intOf i).toNat)
  case atStart => exact ⟨0, rfl, by omega, HF2.out, HE2.out, HB2.out, HN2.out⟩
  case round =>
    clear HF2 HE2 HB2 HN2
    obtain ⟨m, rfl, hm, hf, he, hby, hn'⟩ := hrel
    have HFM := hid hf; have HEM := hid he; have HBM := hid hby; have HNM := hid hn'
    clear he hby hn'
    by_cases hmy : m < n
    · have hmI : (m : Int) < (n : Int) := by omega
      have hf0 := hf.cellv 0 rfl; have hf1 := hf.cellv 1 rfl
      have HSE := hid (fun W (q : ByAt W g (fillL (zerosL n) 0 m)) => bset_any (n : Int) g cz (fillL (zerosL n) 0 m) m true W q (by rw [fill_len, HZL.out]; omega) (by rw [fill_len, HZL.out]; omega))
      rw [fill_len] at HSE
      have HFI := hid (show fillL (zerosL n) 0 (m + 1) = setL (fillL (zerosL n) 0 m) m true by show setL (fillL (zerosL n) 0 m) (0 + m) true = _; rw [Nat.zero_add])
      have hFl := hf.lt
      clear hf
      go_wp2_with fail
      refine (HSE.out _ HBM.out).mono ?_
      rintro e w5 ⟨rfl, hb5, m5⟩
      rw [← HFI.out] at hb5
      have HB5 := hid hb5
      have hFg : F ≠ g := by omega
      have HF5 := hid (m5.blk HFM.out hFg)
      have HE5 := hid (m5.blk HEM.out (by omega))
      have HN5 : Hid (New w w5) := hid (HNM.out.trans' m5 (fun q hq1 hq2 => by omega))
      clear hb5 m5 hf0 hf1
      go_wp2
      exact ⟨⟨m + 1, by simp, by omega, HF5.out, HE5.out, HB5.out, HN5.out⟩, by simp [intOf]; omega⟩
    · obtain rfl : m = n := by omega
      have f0 := hf.cellv 0 rfl; have f1 := hf.cellv 1 rfl
      have HT := HBM.out.text (zerosL m).length cz (by rw [fill_len])
      have e0 := HEM.out.cellv 0 rfl; have el := HEM.out.lt; have ef := HEM.out.frz 0
      clear hf
      go_wp2
      refine leaves_cons (f := 98) (args := #[.pointer (some ⟨w.heap.size, 0, none⟩)]) (by simp) (by simp [go_sem]) ?_
      refine (bcaught_idle ⟨w.heap.size, 0, none⟩ _).mono ?_
      rintro e u' w3 ⟨rfl, rfl, rfl⟩
      have q1 : (wr.setCell ⟨w.heap.size, 0, none⟩ (.int .i64 0)).cell? ⟨w.heap.size, 0, none⟩ = some (.int .i64 0) := (HEM.out.set 0 (.int .i64 0)).cellv 0 rfl
      refine ⟨.tuple #[.string (mkB (fullL m)), .int .i64 0], by simp [results, Tryz.results46, go_sem, q1, mkB, fullL], rfl, ?_⟩
      exact Mod.set HNM.out _ _ (.inr (Nat.le_refl _))
end Go.Proofs.YtbgmkplpolgebaaGreatDoor
