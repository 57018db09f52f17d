/-
  The walks of Unescape and of its deferred closure (package magnet). No condition on the text.
-/
import Derived.Test.YtecjdppkpfpniaaGreatDoorEsF
namespace Go.Proofs.YtecjdppkpfpniaaGreatDoor
set_option linter.unusedSimpArgs false
set_option linter.unusedVariables false
open Go.RowKit Go.Shelf

theorem undef_keep (p q : Nat) (w : World) (hq : Blk w q #[.int .i64 0] 28) :
    CallsD Tryz.prog 66 #[.pointer (some ⟨q, 0, none⟩), .pointer (some ⟨p, 0, none⟩)] .returning w fun e u' w' => u' = .returning ∧ (e = .returned (.tuple #[]) ∧ w = w') := by
  obtain ⟨q1, q2, q3⟩ := hq.one
  go_enter_d Tryz.func66, Tryz.ntmps66
  go_wp2
  go_end0
  exact ⟨rfl, rfl⟩
theorem undef_drop (p q : Nat) (x : ByteArray) (k : Int) (w : World) (hk : (k != 0) = true) (hp : Blk w p #[.string x] 9) (hq : Blk w q #[.int .i64 k] 28) (hne : p ≠ q) :
    CallsD Tryz.prog 66 #[.pointer (some ⟨q, 0, none⟩), .pointer (some ⟨p, 0, none⟩)] .returning w fun e u' w' => u' = .returning ∧ (e = .returned (.tuple #[]) ∧ Blk w' p #[.string ⟨#[]⟩] 9 ∧ Blk w' q #[.int .i64 k] 28 ∧ Mod (fun j => j = p) w w') := by
  obtain ⟨q1, q2, q3⟩ := hq.one
  obtain ⟨p1, p2, p3⟩ := hp.one
  have HP := hid hp; have HQ := hid hq
  clear hp hq
  go_enter_d Tryz.func66, Tryz.ntmps66
  go_wp2
  go_end0
  refine ⟨rfl, ?_, ?_, ?_⟩
  · apply Blk.row
    · repeat (first | with_reducible exact HP.out | (with_reducible apply Blk.newAt; (simp; done)) | with_reducible apply Blk.alloc | with_reducible apply Blk.drew | with_reducible apply Blk.drewN | with_reducible apply Blk.set | (with_reducible apply Blk.other; · first | (simp; done) | (simp; omega) | omega) | (with_reducible apply Blk.putObj; · first | (simp; done) | (simp; omega) | omega))
    · rfl
  · apply Blk.row
    · repeat (first | with_reducible exact HQ.out | (with_reducible apply Blk.newAt; (simp; done)) | with_reducible apply Blk.alloc | with_reducible apply Blk.drew | with_reducible apply Blk.drewN | with_reducible apply Blk.set | (with_reducible apply Blk.other; · first | (simp; done) | (simp; omega) | omega) | (with_reducible apply Blk.putObj; · first | (simp; done) | (simp; omega) | omega))
    · rfl
  · repeat (first | with_reducible exact Mod.refl _ _ | with_reducible refine Mod.alloc ?_ _ | with_reducible refine Mod.drew ?_ | with_reducible refine Mod.drewN ?_ _ | (with_reducible refine Mod.set ?_ _ _ (by first | exact .inl rfl | (right; omega) | (right; simp; done) | (right; simp; omega) | (left; omega) | (left; simp; done) | (left; simp; omega))) | (with_reducible refine Mod.putObj ?_ _ _ (by first | exact .inl rfl | (right; omega) | (right; simp; done) | (right; simp; omega) | (left; omega) | (left; simp; done) | (left; simp; omega))))
set_option maxRecDepth 100000 in
set_option maxHeartbeats 4000000 in
theorem unescape_any (s : ByteArray) (w : World) (hs : s.size ≤ maxLen) : Calls Tryz.prog 19 #[.string s] w fun e w' => e = .returned (.tuple #[.string (unBA s), .int .i64 (unE s.data.toList)]) ∧ New w w' := by
  unfold maxLen at hs
  have hmf : ∀ (fn : Fn) (first cap : Array Value) (w : World), (Instr.makeFunc fn first cap).run Tryz.prog w = .ok (.func fn first cap) w := fun _ _ _ _ => rfl
  have hlen : s.data.toList.length = s.size := by rw [Array.length_toList]; rfl
  by_cases hlong : 65536 < s.size
  · have HU := hid (un_long hlong)
    have hI : (65536 : Int) < (s.size : Int) := by omega
    clear hlong
    go_enter_defers Tryz.func19, Tryz.ntmps19
    go_wp2
    refine ⟨.tuple #[.string ⟨#[]⟩, .int .i64 3], by simp [results, Tryz.results19, go_sem], ret_un HU.out.2.symm HU.out.1.symm, ?_⟩
    repeat (first | with_reducible exact Mod.refl _ _ | with_reducible refine Mod.alloc ?_ _ | with_reducible refine Mod.drew ?_ | with_reducible refine Mod.drewN ?_ _ | (with_reducible refine Mod.set ?_ _ _ (by first | exact .inl rfl | (right; omega) | (right; simp; done) | (right; simp; omega) | (left; omega) | (left; simp; done) | (left; simp; omega))) | (with_reducible refine Mod.putObj ?_ _ _ (by first | exact .inl rfl | (right; omega) | (right; simp; done) | (right; simp; omega) | (left; omega) | (left; simp; done) | (left; simp; omega))))
  have hI : ¬ (65536 : Int) < (s.size : Int) := by omega
  have BP := hid ((Blk.new w #[.string ⟨#[]⟩] 9).alloc (.cells #[.int .i64 0] 28))
  have BQ := hid ((Blk.newAt (w := w.alloc (.cells #[.string ⟨#[]⟩] 9)) (b := w.heap.size + 1) (cs := #[.int .i64 0]) (t := 28) (by simp)))
  have HNA := hid (((Mod.refl _ w).alloc (.cells #[.string ⟨#[]⟩] 9)).alloc (.cells #[.int .i64 0] 28) : New w _)
  have HLS := hid (fun W => unescaped_any s W (by omega))
  cases hl : loose s.data.toList with
  | none =>
    have HU := hid (un_none (by omega) hl)
    rw [hl, hexR] at HLS
    clear hl
    go_enter_defers Tryz.func19, Tryz.ntmps19
    go_wp2_with fail
    refine (HLS.out _).mono ?_
    rintro e w1 ⟨rfl, n1⟩
    have P1 := hid (n1.blk BP.out); have Q1 := hid (n1.blk BQ.out)
    have NN := hid (HNA.out.trans n1)
    clear n1
    go_wp2
    refine leaves_cons (f := 36) (args := #[.pointer (some ⟨w.heap.size + 1, 0, none⟩)]) (by simp) (by simp [go_sem]) ?_
    refine (caught_told (w.heap.size + 1) 2 _ Q1.out).mono ?_
    rintro e u' w6 ⟨rfl, rfl, bq, m6⟩
    have P6 := m6.blk P1.out (by omega)
    refine leaves_cons (f := 66) (args := #[.pointer (some ⟨w.heap.size + 1, 0, none⟩), .pointer (some ⟨w.heap.size, 0, none⟩)]) (by simp [settle]) (by simp [go_sem]) ?_
    refine (undef_drop w.heap.size (w.heap.size + 1) _ 2 _ rfl P6 bq (by omega)).mono ?_
    rintro e u' w7 ⟨rfl, rfl, p7, q7, m7⟩
    have c0 := p7.cellv 0 rfl
    have c1 := q7.cellv 0 rfl
    refine ⟨.tuple #[.string ⟨#[]⟩, .int .i64 2], by simp [results, Tryz.results19, go_sem, c0, c1], ret_un HU.out.2.symm HU.out.1.symm, ?_⟩
    exact (NN.out.trans' m6 (fun j h1 h2 => by omega)).trans' m7 (fun j h1 h2 => by omega)
  | some t =>
    rw [hl, hexR] at HLS
    have htl := loose_len _ _ (Nat.le_refl _) _ hl
    have HES := hid (fun W => escape_any ⟨t.toArray⟩ W (by show t.toArray.size ≤ _; simp; omega))
    rw [show (⟨t.toArray⟩ : ByteArray).data.toList = t by simp] at HES
    obtain ⟨T, hT⟩ : ∃ T : ByteArray, T = ⟨t.toArray⟩ := ⟨_, rfl⟩
    obtain ⟨Y, hY⟩ : ∃ Y : ByteArray, Y = ⟨(eOf t).toArray⟩ := ⟨_, rfl⟩
    rw [← hT] at HLS HES
    rw [← hY] at HES
    by_cases hd : eOf t = s.data.toList
    · have HU := hid (un_same (by omega) hl hd)
      rw [← hT] at HU
      have hbb : (Y.toList == s.toList) = true := by
        rw [beq_iff_eq, ByteArray.toList_eq, ByteArray.toList_eq, hY]
        simp [hd]
      clear hl htl hlen hT hY hd
      go_enter_defers Tryz.func19, Tryz.ntmps19
      go_wp2_with fail
      refine (HLS.out _).mono ?_
      rintro e w1 ⟨rfl, n1⟩
      have P1 := hid (n1.blk BP.out); have Q1 := hid (n1.blk BQ.out)
      have NN := hid (HNA.out.trans n1)
      clear n1
      obtain ⟨p1, p2, p3⟩ := P1.out.one
      have hp4 : (w1.setCell ⟨w.heap.size, 0, none⟩ (.string T)).cell? ⟨w.heap.size, 0, none⟩ = some (.string T) := (P1.out.set 0 (.string T)).cellv 0 rfl
      go_wp2_with fail
      refine (HES.out _).mono ?_
      rintro e w2 ⟨rfl, n2⟩
      have P2 := hid (n2.blk ((P1.out.set 0 (.string T)).row (cs' := #[.string T]) rfl))
      have Q2 := hid (n2.blk (Q1.out.other (p := ⟨w.heap.size, 0, none⟩) (u := .string T) (by simp)))
      have N2 := hid ((Mod.set NN.out ⟨w.heap.size, 0, none⟩ (.string T) (.inr (Nat.le_refl _))).trans n2)
      clear n2 p1 p2 p3 hp4
      obtain ⟨p1, p2, p3⟩ := P2.out.one
      obtain ⟨q1, q2, q3⟩ := Q2.out.one
      go_wp2_with fail
      refine (need_yes 2 _).mono ?_
      rintro e w3 ⟨rfl, rfl⟩
      go_wp2
      have B0 : Blk ((w2.setCell ⟨w.heap.size, 0, none⟩ (.string T)).setCell ⟨w.heap.size + 1, 0, none⟩ (.int .i64 0)) w.heap.size #[.string T] 9 := by
        apply Blk.row
        · repeat (first | with_reducible exact P2.out | (with_reducible apply Blk.newAt; (simp; done)) | with_reducible apply Blk.alloc | with_reducible apply Blk.drew | with_reducible apply Blk.drewN | with_reducible apply Blk.set | (with_reducible apply Blk.other; · first | (simp; done) | (simp; omega) | omega) | (with_reducible apply Blk.putObj; · first | (simp; done) | (simp; omega) | omega))
        · rfl
      have B1 : Blk ((w2.setCell ⟨w.heap.size, 0, none⟩ (.string T)).setCell ⟨w.heap.size + 1, 0, none⟩ (.int .i64 0)) (w.heap.size + 1) #[.int .i64 0] 28 := by
        apply Blk.row
        · repeat (first | with_reducible exact Q2.out | (with_reducible apply Blk.newAt; (simp; done)) | with_reducible apply Blk.alloc | with_reducible apply Blk.drew | with_reducible apply Blk.drewN | with_reducible apply Blk.set | (with_reducible apply Blk.other; · first | (simp; done) | (simp; omega) | omega) | (with_reducible apply Blk.putObj; · first | (simp; done) | (simp; omega) | omega))
        · rfl
      refine leaves_cons (f := 36) (args := #[.pointer (some ⟨w.heap.size + 1, 0, none⟩)]) (by simp) (by simp [go_sem]) ?_
      refine (caught_idle ⟨w.heap.size + 1, 0, none⟩ _).mono ?_
      rintro e u' w6 ⟨rfl, rfl, rfl⟩
      refine leaves_cons (f := 66) (args := #[.pointer (some ⟨w.heap.size + 1, 0, none⟩), .pointer (some ⟨w.heap.size, 0, none⟩)]) (by simp [settle]) (by simp [go_sem]) ?_
      refine (undef_keep w.heap.size (w.heap.size + 1) _ B1).mono ?_
      rintro e u' w7 ⟨rfl, rfl, rfl⟩
      have c0 := B0.cellv 0 rfl
      have c1 := B1.cellv 0 rfl
      refine ⟨.tuple #[.string T, .int .i64 0], by simp [results, Tryz.results19, go_sem, c0, c1], ret_un HU.out.2.symm HU.out.1.symm, ?_⟩
      exact Mod.set (Mod.set N2.out ⟨w.heap.size, 0, none⟩ (.string T) (.inr (Nat.le_refl _))) ⟨w.heap.size + 1, 0, none⟩ _ (.inr (by show w.heap.size ≤ w.heap.size + 1; omega))
    · have HU := hid (un_diff (by omega) hl hd)
      have hbb : (Y.toList == s.toList) = false := by
        rw [beq_eq_false_iff_ne, ne_eq, ByteArray.toList_eq, ByteArray.toList_eq, hY]
        simpa using hd
      clear hl htl hlen hT hY hd
      go_enter_defers Tryz.func19, Tryz.ntmps19
      go_wp2_with fail
      refine (HLS.out _).mono ?_
      rintro e w1 ⟨rfl, n1⟩
      have P1 := hid (n1.blk BP.out); have Q1 := hid (n1.blk BQ.out)
      have NN := hid (HNA.out.trans n1)
      clear n1
      obtain ⟨p1, p2, p3⟩ := P1.out.one
      have hp4 : (w1.setCell ⟨w.heap.size, 0, none⟩ (.string T)).cell? ⟨w.heap.size, 0, none⟩ = some (.string T) := (P1.out.set 0 (.string T)).cellv 0 rfl
      go_wp2_with fail
      refine (HES.out _).mono ?_
      rintro e w2 ⟨rfl, n2⟩
      have P2 := hid (n2.blk ((P1.out.set 0 (.string T)).row (cs' := #[.string T]) rfl))
      have Q2 := hid (n2.blk (Q1.out.other (p := ⟨w.heap.size, 0, none⟩) (u := .string T) (by simp)))
      have N2 := hid ((Mod.set NN.out ⟨w.heap.size, 0, none⟩ (.string T) (.inr (Nat.le_refl _))).trans n2)
      clear n2 p1 p2 p3 hp4
      go_wp2_with fail
      refine (need_no 2 _).mono ?_
      rintro e w3 ⟨rfl, rfl⟩
      go_wp2
      refine leaves_cons (f := 36) (args := #[.pointer (some ⟨w.heap.size + 1, 0, none⟩)]) (by simp) (by simp [go_sem]) ?_
      refine (caught_told (w.heap.size + 1) 2 _ Q2.out).mono ?_
      rintro e u' w6 ⟨rfl, rfl, bq, m6⟩
      have P6 := m6.blk P2.out (by omega)
      refine leaves_cons (f := 66) (args := #[.pointer (some ⟨w.heap.size + 1, 0, none⟩), .pointer (some ⟨w.heap.size, 0, none⟩)]) (by simp [settle]) (by simp [go_sem]) ?_
      refine (undef_drop w.heap.size (w.heap.size + 1) _ 2 _ rfl P6 bq (by omega)).mono ?_
      rintro e u' w7 ⟨rfl, rfl, p7, q7, m7⟩
      have c0 := p7.cellv 0 rfl
      have c1 := q7.cellv 0 rfl
      refine ⟨.tuple #[.string ⟨#[]⟩, .int .i64 2], by simp [results, Tryz.results19, go_sem, c0, c1], ret_un HU.out.2.symm HU.out.1.symm, ?_⟩
      exact (N2.out.trans' m6 (fun j h1 h2 => by omega)).trans' m7 (fun j h1 h2 => by omega)
end Go.Proofs.YtecjdppkpfpniaaGreatDoor
