/-
  The walks of named and Wrong (the reference). Conditions: the file, the list lie as told.
-/
import Derived.Test.YtnhgichiedninaaDoorWi
import Derived.Test.YtnhgichiedninaaDoorDec
import Derived.Test.YtnhgichiedninaaDoorPa
import Derived.Deep.RegionHeld3
import Derived.BigQuiet
namespace Go.Proofs.YtnhgichiedninaaDoor
set_option linter.unusedSimpArgs false
set_option linter.unusedVariables false
open Go.RowKit

theorem parts_upto {p : List ByteArray} {k : Nat} (hk : ¬ k < p.length) (h : ∀ (j : Nat) (hj : j < p.length), j < k → partOk p[j] = true) : p.all partOk = true := by
  rw [List.all_eq_true]
  intro x hx
  obtain ⟨j, hj, rfl⟩ := List.mem_iff_getElem.1 hx
  exact h j hj (by omega)
theorem parts_not {p : List ByteArray} {k : Nat} (hk : k < p.length) (h : partOk p[k] = false) : p.all partOk = false := by
  rw [List.all_eq_false]
  exact ⟨_, List.getElem_mem hk, by simp [h]⟩

set_option maxRecDepth 100000 in
set_option maxHeartbeats 2000000 in
theorem named_pad (pa : Option Addr) (pc : Nat) (f : FileV) (w : World) (h : StrsAt w pa pc f.path) (hl : -9223372036854775808 ≤ f.len ∧ f.len ≤ 9223372036854775807) (hp : f.pad = true) :
    Calls Tryd.prog 45 #[fileV pa pc f] w fun e w' => e = .returned (.bool (decide (f.path = padPath f.len))) ∧ New w w' := by
  have hr := h.room; have hr2 := h.cap
  unfold maxLen at hr2
  obtain ⟨path, len, pad⟩ := f
  dsimp only at *
  subst hp
  by_cases h2 : path.length = 2
  · obtain ⟨x, y, rfl⟩ : ∃ x y, path = [x, y] := by
      match path, h2 with
      | [x, y], _ => exact ⟨x, y, rfl⟩
    obtain ⟨pb, po, rfl, hpb, hpc⟩ := h.get (by simp)
    have c0 : w.cell? ⟨pb, po, none⟩ = some (.string x) := hpc 0 (by simp)
    have c1 : w.cell? ⟨pb, po + 1, none⟩ = some (.string y) := hpc 1 (by simp)
    have HL := hid hl
    have HD := hid (fun w => decimal_any len hl.1 hl.2 w)
    clear h hpc hl h2
    cases e0 : x.toList == [46, 112, 97, 100] with
    | false =>
      have HE := hid (show decide ([x, y] = padPath len) = false by
        rw [lit_eq] at e0
        simp only [decide_eq_false_iff_not] at e0 ⊢
        intro h
        simp [padPath] at h
        exact e0 h.1)
      go_enter Tryd.func45, Tryd.ntmps45
      go_wp2
      go_quiet (fail)
      go_wp2
      go_ret
      exact ⟨ret_bool HE.out.symm, (((Mod.refl _ _).alloc _).drewN _)⟩
    | true =>
      have HE := hid (show decide ([x, y] = padPath len) = decide (y = itoaB len) by
        rw [lit_eq] at e0
        simp only [decide_eq_true_eq] at e0
        subst e0
        rw [Bool.eq_iff_iff]
        simp [padPath, dotpad])
      have HW := hid (two_eq y (itoaB len))
      go_enter Tryd.func45, Tryd.ntmps45
      go_wp2
      go_region_held3 (fun w' => w'.cell? ⟨w.heap.size, 0, none⟩ = some (.slice (some ⟨pb, po, none⟩) 2 pc) ∧ w'.cell? ⟨w.heap.size, 1, none⟩ = some (.int .i64 len) ∧ w'.cell? ⟨pb, po, none⟩ = some (.string x) ∧ w'.cell? ⟨pb, po + 1, none⟩ = some (.string y)) ((first | exact ⟨r0, r1, r2, r3⟩ | go_keep)) (first | (go_at_call 62; refine (HD.out _).mono ?_; rintro e w1 ⟨rfl, n1⟩; have N1 := hid (Mod.trans ((((Mod.refl (fun _ => False) w).alloc _)).drew) n1); have B1 := n1.blk (Blk.drew (Blk.new w #[.slice (some ⟨pb, po, none⟩) 2 pc, .int .i64 len, .bool true] 37)); have r0 : w1.cell? ⟨w.heap.size, 0, none⟩ = some (.slice (some ⟨pb, po, none⟩) 2 pc) := B1.cellv 0 rfl; have r1 : w1.cell? ⟨w.heap.size, 1, none⟩ = some (.int .i64 len) := B1.cellv 1 rfl; have r2 := New.cellv N1.out c0; have r3 := New.cellv N1.out c1; clear n1 B1))
      all_goals go_wp2
      all_goals go_ret
      all_goals exact ⟨ret_bool (HW.out.trans HE.out.symm), N1.out⟩
  · have HE := hid (show decide (path = padPath len) = false by
      simp only [decide_eq_false_iff_not]
      intro h
      rw [h] at h2
      exact h2 rfl)
    have hb : ((path.length : Int) == 2) = false := beq_eq_false_iff_ne.2 (by omega)
    clear h hl
    go_enter Tryd.func45, Tryd.ntmps45
    go_wp2
    go_quiet (fail)
    go_wp2
    go_ret
    exact ⟨ret_bool HE.out.symm, (((Mod.refl _ _).alloc _).drewN _)⟩

set_option maxRecDepth 100000 in
set_option maxHeartbeats 2000000 in
theorem named_file (pa : Option Addr) (pc : Nat) (f : FileV) (w : World) (h : StrsAt w pa pc f.path) (hp : f.pad = false) :
    Calls Tryd.prog 45 #[fileV pa pc f] w fun e w' => e = .returned (.bool (f.path.all partOk && decide (1 ≤ f.path.length) && decide (f.path.length ≤ 8) && !decide (f.path.head? = some dotpad))) ∧ New w w' := by
  have hr := h.room; have hr2 := h.cap
  unfold maxLen at hr2
  obtain ⟨path, len, pad⟩ := f
  dsimp only at *
  subst hp
  by_cases hz : 0 < path.length
  · obtain ⟨pb, po, rfl, hpb, hpc⟩ := h.get hz
    have HS := hid h.small
    have HPC := hid hpc
    clear h hpc
    go_enter Tryd.func45, Tryd.ntmps45
    go_wp2
    go_loopw [31] (fun i wr => ∃ k : Nat, i = .int .i64 k ∧ k ≤ path.length ∧ (∀ (j : Nat) (hj : j < path.length), j < k → partOk path[j] = true) ∧ wr = w.alloc (.cells #[.slice (some ⟨pb, po, none⟩) path.length pc, .int .i64 len, .bool false] 37)) (fun i _ => path.length - (intOf i).toNat)
    case atStart => exact ⟨0, rfl, by omega, by intros; omega, rfl⟩
    case round =>
      obtain ⟨k, rfl, hk, hb, rfl⟩ := hrel
      have HB := hid hb
      clear hb
      by_cases hlt : k < path.length
      · have g1 := HPC.out k hlt
        have hsz : (path[k]).size ≤ maxLen := HS.out _ (List.getElem_mem hlt)
        obtain ⟨s, hs⟩ : ∃ s, s = path[k] := ⟨_, rfl⟩
        rw [← hs] at g1 hsz
        have HP := hid (fun w => rPart_any s w hsz)
        have HSK := hid hs
        clear hsz hs
        cases he : partOk s with
        | true =>
          rw [he] at HP
          have HE := hid he
          clear he
          go_wp2_with (go_at_call 63; refine (HP.out _).mono ?_; rintro e w1 ⟨rfl, rfl⟩)
          exact ⟨⟨k + 1, by simp, by omega, fun j hj h => by rcases Nat.lt_succ_iff_lt_or_eq.1 h with h | h; exact HB.out j hj h; subst h; rw [← HSK.out]; exact HE.out, trivial⟩, by simp [intOf]; omega⟩
        | false =>
          rw [he] at HP
          have HE := hid (parts_not hlt (by rw [← HSK.out]; exact he))
          clear he
          go_wp2_with (go_at_call 63; refine (HP.out _).mono ?_; rintro e w1 ⟨rfl, rfl⟩)
          go_ret
          exact ⟨ret_bool (by rw [HE.out]; rfl), (Mod.refl _ _).alloc _⟩
      · have HE := hid (parts_upto hlt (fun j hj h => HB.out j hj h))
        have h1 : (1 : Int) ≤ path.length := by omega
        have c0 : w.cell? ⟨pb, po, none⟩ = some (.string path[0]) := by simpa using HPC.out 0 hz
        have HH := hid (show decide (path.head? = some dotpad) = (path[0].toList == [46, 112, 97, 100]) by
          rw [lit_eq, List.head?_eq_getElem?, List.getElem?_eq_getElem hz, Bool.eq_iff_iff]
          simp [dotpad])
        obtain ⟨x, hx⟩ : ∃ x, x = path[0] := ⟨_, rfl⟩
        rw [← hx] at c0 HH
        clear hx
        by_cases h8 : path.length ≤ 8
        · have h8' : (path.length : Int) ≤ 8 := by omega
          have HV := hid (show (path.all partOk && decide (1 ≤ path.length) && decide (path.length ≤ 8) && !decide (path.head? = some dotpad)) = !(x.toList == [46, 112, 97, 100]) by
            rw [HE.out, HH.out, decide_eq_true (show 1 ≤ path.length by omega), decide_eq_true h8]; rfl)
          go_wp2
          all_goals go_ret
          all_goals exact ⟨ret_bool (by first | exact HV.out.symm | (simp; done) | (rw [← HV.out]; simp)), (Mod.refl _ _).alloc _⟩
        · have h8' : ¬ (path.length : Int) ≤ 8 := by omega
          have HV := hid (show (path.all partOk && decide (1 ≤ path.length) && decide (path.length ≤ 8) && !decide (path.head? = some dotpad)) = false by
            rw [decide_eq_false h8]; simp)
          go_wp2
          all_goals go_ret
          all_goals exact ⟨ret_bool (by first | exact HV.out.symm | (simp; done) | (rw [← HV.out]; simp)), (Mod.refl _ _).alloc _⟩
  · obtain rfl : path = [] := List.eq_nil_of_length_eq_zero (by omega)
    clear h
    go_enter Tryd.func45, Tryd.ntmps45
    go_wp2
    refine wp_loop_rounds 1 ?_
    rw [rounds_succ]
    go_wp2
    go_ret
    exact ⟨rfl, (Mod.refl _ _).alloc _⟩
theorem named_any (pa : Option Addr) (pc : Nat) (f : FileV) (w : World) (h : StrsAt w pa pc f.path) (hl : -9223372036854775808 ≤ f.len ∧ f.len ≤ 9223372036854775807) :
    Calls Tryd.prog 45 #[fileV pa pc f] w fun e w' => e = .returned (.bool (namedR f)) ∧ New w w' := by
  cases hp : f.pad with
  | true =>
    have e : namedR f = decide (f.path = padPath f.len) := by simp [namedR, hp]
    rw [e]
    exact named_pad pa pc f w h hl hp
  | false =>
    have e : namedR f = (f.path.all partOk && decide (1 ≤ f.path.length) && decide (f.path.length ≤ 8) && !decide (f.path.head? = some dotpad)) := by simp [namedR, hp]
    rw [e]
    exact named_file pa pc f w h hp
end Go.Proofs.YtnhgichiedninaaDoor
