/-
  Several texts in one, in their build order. The walk of Wants (package magnet). Condition: the magnet lies as told. The walk of the reference's Valid, of any magnet. Condition: the magnet lies as told.
-/
import Derived.Test.YtbgmkplpolgebaaGreatDoorM31
import Derived.Test.YtbgmkplpolgebaaGreatDoorM33
namespace Go.Proofs.YtbgmkplpolgebaaGreatDoor
set_option linter.unusedSimpArgs false
set_option linter.unusedVariables false
open Go.RowKit Go.Shelf

/-- What Wants answers. -/
def wantQ (X : Except Int (List Nat)) (e : Ending) (w' : World) : Prop := match X with
  | .error k => e = .returned (.tuple #[.slice none 0 0, .int .i64 k])
  | .ok N => ∃ a c, e = .returned (.tuple #[.slice a N.length c, .int .i64 0]) ∧ NmAt w' a c N ∧ (a = none → c = 0)
theorem wantQ_no {k : Int} {e : Ending} {w' : World} (h : wantQ (.error k) e w') : e = .returned (.tuple #[.slice none 0 0, .int .i64 k]) := h
theorem wantQ_yes {N : List Nat} {e : Ending} {w' : World} (h : wantQ (.ok N) e w') : ∃ a c, e = .returned (.tuple #[.slice a N.length c, .int .i64 0]) ∧ NmAt w' a c N ∧ (a = none → c = 0) := h
/-- .. and what the program's does: its list is never nil. -/
def wantG (X : Except Int (List Nat)) (e : Ending) (w' : World) : Prop := match X with
  | .error k => e = .returned (.tuple #[.slice none 0 0, .int .i64 k])
  | .ok N => ∃ g c, e = .returned (.tuple #[.slice (some ⟨g, 0, none⟩) N.length c, .int .i64 0]) ∧ NmAt w' (some ⟨g, 0, none⟩) c N
theorem wantG_no {k : Int} {e : Ending} {w' : World} (h : wantG (.error k) e w') : e = .returned (.tuple #[.slice none 0 0, .int .i64 k]) := h
theorem wantG_yes {N : List Nat} {e : Ending} {w' : World} (h : wantG (.ok N) e w') : ∃ g c, e = .returned (.tuple #[.slice (some ⟨g, 0, none⟩) N.length c, .int .i64 0]) ∧ NmAt w' (some ⟨g, 0, none⟩) c N := h
theorem nums_order (n : Nat) (s : List UInt8) : (numsL n s).Pairwise (· < ·) := List.Pairwise.filter _ List.pairwise_lt_range
/-- The field that Wants reads. -/
theorem want_field {m : MgV} (h : VOk m) : ∃ S, FieldOf 40 S ∧ frR 40 m.on = .ok S ∧ selB m = S ∧ FieldOf 40 (if m.on = [] then fullL 40 else S) ∧ 0 < (numsL 40 (if m.on = [] then fullL 40 else S)).length := by
  obtain ⟨S, hS, hfs, hms⟩ := onB_field h.on
  refine ⟨S, hS, hfs, by unfold selB; rw [hfs], ?_, ?_⟩
  · split
    · exact fullL_field 40
    · exact hS
  · split
    · have : (0 : Nat) ∈ numsL 40 (fullL 40) := by
        unfold numsL
        rw [List.mem_filter]
        exact ⟨by simp, fullL_bit (by omega)⟩
      exact List.length_pos_of_mem this
    · next hn =>
      rcases Nat.eq_zero_or_pos (numsL 40 S).length with q | q
      · refine absurd ?_ hn
        rw [hms]
        unfold runsF
        rw [List.eq_nil_of_length_eq_zero q]
        rfl
      · exact q
set_option maxRecDepth 100000 in
set_option maxHeartbeats 4000000 in
theorem mWants_any (m : MgV) (p : MgP) (f : Int) (w : World) (h : MagAt w m p) :
    Calls Tryz.prog 15 #[magVal m p, .int .i64 f] w fun e w' => wantG (wantsP m f) e w' ∧ New w w' := by
  have HVA := hid (fun W (n : New w W) => mValid_any m p W (h.new n))
  obtain ⟨ta, tc, pa, pc, sa, sc, oa, oc⟩ := p
  simp only [magVal, magRow] at HVA ⊢
  obtain ⟨X, hX⟩ : ∃ X, X = wantsP m f := ⟨_, rfl⟩
  rw [← hX]
  unfold wantsP at hX
  cases hva : validMg m with
  | false =>
    have HX := hid (show X = .error 1 by rw [hX, if_pos hva])
    rw [hva] at HVA
    clear h hX hva
    go_enter Tryz.func15, Tryz.ntmps15
    go_wp2_with fail
    refine name_worldA (p := fun W => Calls _ _ _ W _) (fun W1 hW => ?_)
    have A1x : Blk W1 w.heap.size #[.string m.old, .string m.new, .string m.name, .slice ta m.tr.length tc, .slice pa m.pe.length pc, .slice sa m.ws.length sc, .slice oa m.on.length oc] 27 := by
      rw [hW]
      apply Blk.row
      · repeat (first | with_reducible exact hW | (with_reducible apply Blk.newAt; (simp; done)) | with_reducible apply Blk.alloc | with_reducible apply Blk.drew | with_reducible apply Blk.drewN | with_reducible apply Blk.set | (with_reducible apply Blk.other; · first | (simp; done) | (simp; omega) | omega) | (with_reducible apply Blk.putObj; · first | (simp; done) | (simp; omega) | omega))
      · rfl
    have B1x : Blk W1 (w.heap.size + 1) #[.int .i64 f] 3 := by
      rw [hW]
      apply Blk.row
      · repeat (first | with_reducible exact hW | (with_reducible apply Blk.newAt; (simp; done)) | with_reducible apply Blk.alloc | with_reducible apply Blk.drew | with_reducible apply Blk.drewN | with_reducible apply Blk.set | (with_reducible apply Blk.other; · first | (simp; done) | (simp; omega) | omega) | (with_reducible apply Blk.putObj; · first | (simp; done) | (simp; omega) | omega))
      · rfl
    have N1x : New w W1 := by
      rw [hW]
      repeat (first | with_reducible exact Mod.refl _ w | with_reducible refine Mod.alloc ?_ _ | with_reducible refine Mod.drew ?_ | with_reducible refine Mod.drewN ?_ _ | (with_reducible refine Mod.set ?_ _ _ (by first | exact .inl rfl | (right; omega) | (right; simp; done) | (right; simp; omega) | (left; omega) | (left; simp; done) | (left; simp; omega))) | (with_reducible refine Mod.putObj ?_ _ _ (by first | exact .inl rfl | (right; omega) | (right; simp; done) | (right; simp; omega) | (left; omega) | (left; simp; done) | (left; simp; omega))))
    have A1 := hid A1x; have B1 := hid B1x; have N1 := hid N1x
    clear hW A1x B1x N1x
    refine (HVA.out _ N1.out).mono ?_
    rintro e w2 ⟨rfl, n2⟩
    have A2 := hid (New.blk n2 A1.out); have B2 := hid (New.blk n2 B1.out); have N2 := hid (N1.out.trans n2)
    clear n2 A1 B1 N1
    go_wp2
    go_ret2
    exact ⟨by rw [HX.out]; rfl, N2.out⟩
  | true =>
    rw [hva, if_neg (by decide)] at hX
    rw [hva] at HVA
    by_cases h1 : f < 1
    · have HX := hid (show X = .error 7 by rw [hX, if_pos (.inl h1)])
      clear h hX hva
      go_enter Tryz.func15, Tryz.ntmps15
      go_wp2_with fail
      refine name_worldA (p := fun W => Calls _ _ _ W _) (fun W1 hW => ?_)
      have A1x : Blk W1 w.heap.size #[.string m.old, .string m.new, .string m.name, .slice ta m.tr.length tc, .slice pa m.pe.length pc, .slice sa m.ws.length sc, .slice oa m.on.length oc] 27 := by
        rw [hW]
        apply Blk.row
        · repeat (first | with_reducible exact hW | (with_reducible apply Blk.newAt; (simp; done)) | with_reducible apply Blk.alloc | with_reducible apply Blk.drew | with_reducible apply Blk.drewN | with_reducible apply Blk.set | (with_reducible apply Blk.other; · first | (simp; done) | (simp; omega) | omega) | (with_reducible apply Blk.putObj; · first | (simp; done) | (simp; omega) | omega))
        · rfl
      have B1x : Blk W1 (w.heap.size + 1) #[.int .i64 f] 3 := by
        rw [hW]
        apply Blk.row
        · repeat (first | with_reducible exact hW | (with_reducible apply Blk.newAt; (simp; done)) | with_reducible apply Blk.alloc | with_reducible apply Blk.drew | with_reducible apply Blk.drewN | with_reducible apply Blk.set | (with_reducible apply Blk.other; · first | (simp; done) | (simp; omega) | omega) | (with_reducible apply Blk.putObj; · first | (simp; done) | (simp; omega) | omega))
        · rfl
      have N1x : New w W1 := by
        rw [hW]
        repeat (first | with_reducible exact Mod.refl _ w | with_reducible refine Mod.alloc ?_ _ | with_reducible refine Mod.drew ?_ | with_reducible refine Mod.drewN ?_ _ | (with_reducible refine Mod.set ?_ _ _ (by first | exact .inl rfl | (right; omega) | (right; simp; done) | (right; simp; omega) | (left; omega) | (left; simp; done) | (left; simp; omega))) | (with_reducible refine Mod.putObj ?_ _ _ (by first | exact .inl rfl | (right; omega) | (right; simp; done) | (right; simp; omega) | (left; omega) | (left; simp; done) | (left; simp; omega))))
      have A1 := hid A1x; have B1 := hid B1x; have N1 := hid N1x
      clear hW A1x B1x N1x
      refine (HVA.out _ N1.out).mono ?_
      rintro e w2 ⟨rfl, n2⟩
      have A2 := hid (New.blk n2 A1.out); have B2 := hid (New.blk n2 B1.out); have N2 := hid (N1.out.trans n2)
      clear n2 A1 B1 N1
      have f0 : w2.cell? ⟨w.heap.size + 1, 0, none⟩ = some (.int .i64 f) := B2.out.cellv 0 rfl
      go_wp2
      go_ret2
      exact ⟨by rw [HX.out]; rfl, N2.out⟩
    by_cases h2 : 40 < f
    · have HX := hid (show X = .error 7 by rw [hX, if_pos (.inr h2)])
      clear h hX hva
      go_enter Tryz.func15, Tryz.ntmps15
      go_wp2_with fail
      refine name_worldA (p := fun W => Calls _ _ _ W _) (fun W1 hW => ?_)
      have A1x : Blk W1 w.heap.size #[.string m.old, .string m.new, .string m.name, .slice ta m.tr.length tc, .slice pa m.pe.length pc, .slice sa m.ws.length sc, .slice oa m.on.length oc] 27 := by
        rw [hW]
        apply Blk.row
        · repeat (first | with_reducible exact hW | (with_reducible apply Blk.newAt; (simp; done)) | with_reducible apply Blk.alloc | with_reducible apply Blk.drew | with_reducible apply Blk.drewN | with_reducible apply Blk.set | (with_reducible apply Blk.other; · first | (simp; done) | (simp; omega) | omega) | (with_reducible apply Blk.putObj; · first | (simp; done) | (simp; omega) | omega))
        · rfl
      have B1x : Blk W1 (w.heap.size + 1) #[.int .i64 f] 3 := by
        rw [hW]
        apply Blk.row
        · repeat (first | with_reducible exact hW | (with_reducible apply Blk.newAt; (simp; done)) | with_reducible apply Blk.alloc | with_reducible apply Blk.drew | with_reducible apply Blk.drewN | with_reducible apply Blk.set | (with_reducible apply Blk.other; · first | (simp; done) | (simp; omega) | omega) | (with_reducible apply Blk.putObj; · first | (simp; done) | (simp; omega) | omega))
        · rfl
      have N1x : New w W1 := by
        rw [hW]
        repeat (first | with_reducible exact Mod.refl _ w | with_reducible refine Mod.alloc ?_ _ | with_reducible refine Mod.drew ?_ | with_reducible refine Mod.drewN ?_ _ | (with_reducible refine Mod.set ?_ _ _ (by first | exact .inl rfl | (right; omega) | (right; simp; done) | (right; simp; omega) | (left; omega) | (left; simp; done) | (left; simp; omega))) | (with_reducible refine Mod.putObj ?_ _ _ (by first | exact .inl rfl | (right; omega) | (right; simp; done) | (right; simp; omega) | (left; omega) | (left; simp; done) | (left; simp; omega))))
      have A1 := hid A1x; have B1 := hid B1x; have N1 := hid N1x
      clear hW A1x B1x N1x
      refine (HVA.out _ N1.out).mono ?_
      rintro e w2 ⟨rfl, n2⟩
      have A2 := hid (New.blk n2 A1.out); have B2 := hid (New.blk n2 B1.out); have N2 := hid (N1.out.trans n2)
      clear n2 A1 B1 N1
      have f0 : w2.cell? ⟨w.heap.size + 1, 0, none⟩ = some (.int .i64 f) := B2.out.cellv 0 rfl
      go_wp2
      go_ret2
      exact ⟨by rw [HX.out]; rfl, N2.out⟩
    have HX := hid (show X = .ok (wantL m f.toNat) by rw [hX, if_neg (by omega)])
    obtain ⟨S, hS, hfs, hsel, hSX, hpos⟩ := want_field (validMg_iff.1 hva)
    have hwp := want_prog m (f := f.toNat) (by omega)
    rw [hsel] at hwp
    have HFR := hid (fun W (n : New w W) => bFrom_any 40 m.on (.slice oa m.on.length oc) W (h.on.new n).runs (by omega))
    rw [hfs] at HFR
    obtain ⟨Z, hZ⟩ : ∃ Z, Z = (if m.on = [] then fullL 40 else S) := ⟨_, rfl⟩
    rw [← hZ] at hwp hSX hpos
    have HLI := hid (fun W => bList_any 40 (mkB Z) W hSX (by omega))
    rw [show (mkB Z).data.toList = Z from rfl] at HLI
    obtain ⟨N, hN⟩ : ∃ N, N = numsL 40 Z := ⟨_, rfl⟩
    have hNo := nums_order 40 Z
    have hNl : N.length ≤ 4096 := by rw [hN]; have := numsL_leB 40 Z; omega
    rw [← hN] at HLI hwp hpos hNo
    have HDE := hid (fun v W base (q : OwnC W 3 base v (numV N)) (k : W.cell? ⟨w.heap.size + 1, 0, none⟩ = some (.int .i64 f)) => delW_any (w.heap.size + 1) base f v N W q hpos hNl hNo k)
    have hfe : (fun (i : Nat) => decide ((i : Int) < f)) = (fun i => decide (i < f.toNat)) := by
      funext i
      rw [decide_eq_decide]
      omega
    rw [hfe, hwp] at HDE
    obtain ⟨R, hR⟩ : ∃ R, R = wantL m f.toNat := ⟨_, rfl⟩
    rw [← hR] at HDE HX
    have HFU := hid (fun W => bFull_any 40 W (by omega))
    have HZ := hid hZ
    clear h hX hva hfs hsel hSX hpos hwp hZ hN hNo hNl hfe hR hS
    go_enter Tryz.func15, Tryz.ntmps15
    go_wp2_with fail
    refine name_worldA (p := fun W => Calls _ _ _ W _) (fun W1 hW => ?_)
    have A1x : Blk W1 w.heap.size #[.string m.old, .string m.new, .string m.name, .slice ta m.tr.length tc, .slice pa m.pe.length pc, .slice sa m.ws.length sc, .slice oa m.on.length oc] 27 := by
      rw [hW]
      apply Blk.row
      · repeat (first | with_reducible exact hW | (with_reducible apply Blk.newAt; (simp; done)) | with_reducible apply Blk.alloc | with_reducible apply Blk.drew | with_reducible apply Blk.drewN | with_reducible apply Blk.set | (with_reducible apply Blk.other; · first | (simp; done) | (simp; omega) | omega) | (with_reducible apply Blk.putObj; · first | (simp; done) | (simp; omega) | omega))
      · rfl
    have B1x : Blk W1 (w.heap.size + 1) #[.int .i64 f] 3 := by
      rw [hW]
      apply Blk.row
      · repeat (first | with_reducible exact hW | (with_reducible apply Blk.newAt; (simp; done)) | with_reducible apply Blk.alloc | with_reducible apply Blk.drew | with_reducible apply Blk.drewN | with_reducible apply Blk.set | (with_reducible apply Blk.other; · first | (simp; done) | (simp; omega) | omega) | (with_reducible apply Blk.putObj; · first | (simp; done) | (simp; omega) | omega))
      · rfl
    have N1x : New w W1 := by
      rw [hW]
      repeat (first | with_reducible exact Mod.refl _ w | with_reducible refine Mod.alloc ?_ _ | with_reducible refine Mod.drew ?_ | with_reducible refine Mod.drewN ?_ _ | (with_reducible refine Mod.set ?_ _ _ (by first | exact .inl rfl | (right; omega) | (right; simp; done) | (right; simp; omega) | (left; omega) | (left; simp; done) | (left; simp; omega))) | (with_reducible refine Mod.putObj ?_ _ _ (by first | exact .inl rfl | (right; omega) | (right; simp; done) | (right; simp; omega) | (left; omega) | (left; simp; done) | (left; simp; omega))))
    have A1 := hid A1x; have B1 := hid B1x; have N1 := hid N1x
    clear hW A1x B1x N1x
    refine (HVA.out _ N1.out).mono ?_
    rintro e w2 ⟨rfl, n2⟩
    have A2 := hid (New.blk n2 A1.out); have B2 := hid (New.blk n2 B1.out); have N2 := hid (N1.out.trans n2)
    clear n2 A1 B1 N1
    have f0 : w2.cell? ⟨w.heap.size + 1, 0, none⟩ = some (.int .i64 f) := B2.out.cellv 0 rfl
    have xa : w2.cell? ⟨w.heap.size, 6, none⟩ = some (.slice oa m.on.length oc) := A2.out.cellv 6 rfl
    go_wp2_with fail
    refine (HFR.out _ N2.out).mono ?_
    rintro e w3 ⟨rfl, n3⟩
    simp only [frE]
    have A3 := hid (New.blk n3 A2.out); have B3 := hid (New.blk n3 B2.out); have N3 := hid (N2.out.trans n3)
    clear n3 f0 xa A2 B2 N2
    have xa : w3.cell? ⟨w.heap.size, 6, none⟩ = some (.slice oa m.on.length oc) := A3.out.cellv 6 rfl
    by_cases hz : m.on = []
    · have HZ' := hid (show fullL 40 = Z by rw [HZ.out, if_pos hz])
      have hl : ((m.on.length : Int) == 0) = true := by rw [hz]; rfl
      clear hz
      go_wp2_with fail
      refine (HFU.out _).mono ?_
      rintro e w4 ⟨rfl, n4⟩
      rw [HZ'.out]
      have B4 := hid (New.blk n4 B3.out); have N4 := hid (N3.out.trans n4)
      clear n4 xa A3 B3 N3 hl
      go_wp2_with fail
      refine (HLI.out _).mono ?_
      rintro e w5 ⟨v5, rfl, o5, n5⟩
      have HS4 := hid N4.out.size
      have O5 := hid o5
      have F5 := hid ((New.blk n5 B4.out).cellv 0 rfl)
      have N5 := hid (N4.out.trans n5)
      clear o5 n5
      go_wp2_with fail
      refine (HDE.out _ _ _ O5.out F5.out).mono ?_
      rintro e w6 ⟨g, c, rfl, hnm, m6⟩
      have HN6 := hid hnm
      have N6 := hid (N5.out.trans' m6 (fun j q1 q2 => by have := HS4.out; omega))
      clear hnm m6
      go_wp2
      go_ret2
      exact ⟨by rw [HX.out]; exact ⟨_, c, rfl, HN6.out⟩, N6.out⟩
    · have HZ' := hid (show S = Z by rw [HZ.out, if_neg hz])
      have hl : ((m.on.length : Int) == 0) = false := by
        rw [beq_eq_false_iff_ne]
        exact fun q => hz (List.eq_nil_of_length_eq_zero (by omega))
      rw [HZ'.out]
      clear hz
      go_wp2_with fail
      refine (HLI.out _).mono ?_
      rintro e w5 ⟨v5, rfl, o5, n5⟩
      have HS4 := hid N3.out.size
      have O5 := hid o5
      have F5 := hid ((New.blk n5 B3.out).cellv 0 rfl)
      have N5 := hid (N3.out.trans n5)
      clear o5 n5
      go_wp2_with fail
      refine (HDE.out _ _ _ O5.out F5.out).mono ?_
      rintro e w6 ⟨g, c, rfl, hnm, m6⟩
      have HN6 := hid hnm
      have N6 := hid (N5.out.trans' m6 (fun j q1 q2 => by have := HS4.out; omega))
      clear hnm m6
      go_wp2
      go_ret2
      exact ⟨by rw [HX.out]; exact ⟨_, c, rfl, HN6.out⟩, N6.out⟩
end Go.Proofs.YtbgmkplpolgebaaGreatDoor

namespace Go.Proofs.YtbgmkplpolgebaaGreatDoor
set_option linter.unusedSimpArgs false
set_option linter.unusedVariables false
open Go.RowKit Go.Shelf

set_option maxRecDepth 100000 in
set_option maxHeartbeats 16000000 in
theorem rValid_any (m : MgV) (p : MgP) (w : World) (h : MagAt w m p) :
    Calls Tryz.prog 19 #[magVal m p] w fun e w' => e = .returned (.bool (validMg m)) ∧ New w w' := by
  obtain ⟨ta, tc, pa, pc, sa, sc, oa, oc⟩ := p
  simp only [magVal, magRow]
  have BX : Hid (Blk (w.alloc (.cells #[.string m.old, .string m.new, .string m.name, .slice ta m.tr.length tc, .slice pa m.pe.length pc, .slice sa m.ws.length sc, .slice oa m.on.length oc] 27)) w.heap.size #[.string m.old, .string m.new, .string m.name, .slice ta m.tr.length tc, .slice pa m.pe.length pc, .slice sa m.ws.length sc, .slice oa m.on.length oc] 27) := hid (Blk.new w _ _)
  have NX : Hid (New w (w.alloc (.cells #[.string m.old, .string m.new, .string m.name, .slice ta m.tr.length tc, .slice pa m.pe.length pc, .slice sa m.ws.length sc, .slice oa m.on.length oc] 27))) := hid ((Mod.refl _ w).alloc _)
  have HT := hid (fun W (n : New w W) => rbound_any ta tc m.tr W (h.tr.new n))
  have HS := hid (fun W (n : New w W) => rbound_any sa sc m.ws W (h.ws.new n))
  have HR := hid (fun W (n : New w W) => ronly_any oa oc m.on W (h.on.new n))
  rw [show (decide (m.tr.length ≤ 10) && m.tr.all textM) = bT m from rfl] at HT
  rw [show (decide (m.ws.length ≤ 10) && m.ws.all textM) = bW m from rfl] at HS
  have HVF := hid (validMg_form m)
  have HPE := hid h.pe
  have r1 := h.pe.room; have r2 := h.pe.cap
  dsimp only at r1 r2
  unfold maxLen at r2
  obtain ⟨V, hV⟩ : ∃ V, V = validMg m := ⟨_, rfl⟩
  rw [← hV] at HVF ⊢
  clear h hV
  go_enter Tryz.func19, Tryz.ntmps19
  go_wp2_with fail
  go_loopw [8] (fun i wr => ∃ k : Nat, i = .int .i64 k ∧ k ≤ m.pe.length ∧ (∀ (j : Nat) (hj : j < m.pe.length), j < k → adrOk m.pe[j] = true) ∧ New w wr ∧ Blk wr w.heap.size #[.string m.old, .string m.new, .string m.name, .slice ta m.tr.length tc, .slice pa m.pe.length pc, .slice sa m.ws.length sc, .slice oa m.on.length oc] 27) (fun i _ => m.pe.length - (intOf i).toNat)
  case atStart => exact ⟨0, rfl, by omega, by intros; omega, NX.out, BX.out⟩
  case round =>
    obtain ⟨k, rfl, hk, hb, hn, hbl⟩ := hrel
    have HJ := hid hb
    have HN := hid hn; have HB := hid hbl
    clear hb hn hbl
    by_cases hlt : k < m.pe.length
    · obtain ⟨b1, o1, hpe, hb1, hc1⟩ := (HPE.out.new HN.out).get (by omega)
      (try dsimp only at hpe)
      subst hpe
      obtain ⟨g0, g1, g2⟩ := hc1 k hlt
      have HNO := hid (fun he => all_not (f := adrOk) hlt he)
      have HYE := hid (fun (he : adrOk m.pe[k] = true) (j : Nat) (hj : j < m.pe.length) (h : j < k + 1) => show adrOk m.pe[j] = true by rcases Nat.lt_succ_iff_lt_or_eq.1 h with h | h; exact HJ.out j hj h; subst h; exact he)
      obtain ⟨x, hx⟩ : ∃ x, x = m.pe[k] := ⟨_, rfl⟩
      rw [← hx] at g0 g1 g2 HNO HYE
      have HAV := hid (fun W => rAdrValid_any x W)
      clear hx hc1
      go_wp2_with fail
      refine name_worldA (p := fun W => Calls _ _ _ W _) (fun W hW => ?_)
      have NWx : New wr W := by
        rw [hW]
        repeat (first | with_reducible exact Mod.refl _ wr | with_reducible refine Mod.alloc ?_ _ | with_reducible refine Mod.drew ?_ | with_reducible refine Mod.drewN ?_ _ | (with_reducible refine Mod.set ?_ _ _ (by first | exact .inl rfl | (right; omega) | (right; simp; done) | (right; simp; omega) | (left; omega) | (left; simp; done) | (left; simp; omega))) | (with_reducible refine Mod.putObj ?_ _ _ (by first | exact .inl rfl | (right; omega) | (right; simp; done) | (right; simp; omega) | (left; omega) | (left; simp; done) | (left; simp; omega))))
      have NW := hid NWx
      clear hW NWx
      refine (HAV.out _).mono ?_
      rintro e w1 ⟨rfl, n1⟩
      have N1 := hid (HN.out.trans (NW.out.trans n1))
      have B1 := hid (New.blk (NW.out.trans n1) HB.out)
      clear n1
      cases he : adrOk x with
      | true =>
        have HE := hid (HYE.out he)
        clear he
        go_wp2
        exact ⟨⟨k + 1, by simp, by omega, HE.out, N1.out, B1.out⟩, by simp [intOf]; omega⟩
      | false =>
        have HV := hid (show V = false by rw [HVF.out, show bP m = false by unfold bP; rw [HNO.out he, Bool.and_false]]; simp)
        clear he
        go_wp2
        go_ret
        exact ⟨ret_bool HV.out.symm, N1.out⟩
    · have HPA := hid (show bP m = decide (m.pe.length ≤ 20) by unfold bP; rw [all_upto hlt (fun j hj h => HJ.out j hj h), Bool.and_true])
      have c0 := HB.out.cellv 0 rfl; have c1 := HB.out.cellv 1 rfl; have c2 := HB.out.cellv 2 rfl; have c3 := HB.out.cellv 3 rfl
      rcases sz3 20 20 rfl (by decide) m.old with ⟨o1, o2, o3, o4⟩ | ⟨o1, o5, o2, o3, o4, o6⟩ | ⟨o2, o3, o4, o6⟩
      · rcases sz3 32 32 rfl (by decide) m.new with ⟨n1, n2, n3, n4⟩ | ⟨n1, n5, n2, n3, n4, n6⟩ | ⟨n2, n3, n4, n6⟩
        · have hadd : ∀ w, (Op.stringOp .add m.old m.new).run Tryz.prog w = .ok (.string (m.old ++ m.new)) w := fun w => run_string_add_sum (w := w) _ _ (by omega)
          have q := both_sz m.old m.new
          rw [decide_eq_true o1, decide_eq_true n1] at q
          obtain ⟨q1, q2⟩ := (show ((m.old ++ m.new).toList == []) = true ∧ (m.old ++ m.new).toList.isEmpty = true from q)
          have q3 : ((m.old ++ m.new).toList != []) = !true := by rw [bne, q1]
          simp only [Bool.not_true, Bool.not_false] at q3
          obtain ⟨OM, hOM⟩ : ∃ OM, OM = m.old ++ m.new := ⟨_, rfl⟩
          rw [← hOM] at hadd q1 q2 q3
          clear hOM q
          have HTB := hid (show topsB m = false by rw [tops_sz o2 n2, decide_eq_true o1, decide_eq_true n1]; rfl)
          clear o1 n1 o2 n2
          have HV := hid (show V = false by rw [HVF.out, HTB.out]; rfl)
          go_wp2
          go_ret
          exact ⟨ret_bool HV.out.symm, HN.out⟩
        · have hadd : ∀ w, (Op.stringOp .add m.old m.new).run Tryz.prog w = .ok (.string (m.old ++ m.new)) w := fun w => run_string_add_sum (w := w) _ _ (by omega)
          have q := both_sz m.old m.new
          rw [decide_eq_true o1, decide_eq_false n5] at q
          obtain ⟨q1, q2⟩ := (show ((m.old ++ m.new).toList == []) = false ∧ (m.old ++ m.new).toList.isEmpty = false from q)
          have q3 : ((m.old ++ m.new).toList != []) = !false := by rw [bne, q1]
          simp only [Bool.not_true, Bool.not_false] at q3
          obtain ⟨OM, hOM⟩ : ∃ OM, OM = m.old ++ m.new := ⟨_, rfl⟩
          rw [← hOM] at hadd q1 q2 q3
          clear hOM q
          have HTB := hid (show topsB m = true by rw [tops_sz o2 n2, decide_eq_true o1, decide_eq_false n5]; rfl)
          clear o1 n1 n5 o2 n2
          have HV1 := hid (show V = (decide (m.name.size ≤ 100) && (bT m && (bW m && (bP m && onB m.on)))) by rw [HVF.out, HTB.out, Bool.true_and])
          by_cases hn : m.name.size ≤ 100
          rotate_left
          · have hI : ¬ (m.name.size : Int) ≤ 100 := by omega
            have HV := hid (show V = false by rw [HV1.out, decide_eq_false hn]; rfl)
            clear hn
            go_wp2
            go_ret
            exact ⟨ret_bool HV.out.symm, HN.out⟩
          have hI : (m.name.size : Int) ≤ 100 := by omega
          have HV2 := hid (show V = (bT m && (bW m && (bP m && onB m.on))) by rw [HV1.out, decide_eq_true hn, Bool.true_and])
          clear hn
          go_wp2_with fail
          refine (HT.out _ HN.out).mono ?_
          rintro e w1 ⟨rfl, n1⟩
          have N1 := hid (HN.out.trans n1)
          have B1 := hid (New.blk n1 HB.out)
          have c5 : w1.cell? ⟨w.heap.size, 5, none⟩ = some (.slice sa m.ws.length sc) := B1.out.cellv 5 rfl
          clear n1
          cases hb : bT m with
          | false =>
            have HV := hid (show V = false by rw [HV2.out, hb]; rfl)
            clear hb
            go_wp2
            go_ret
            exact ⟨ret_bool HV.out.symm, N1.out⟩
          | true =>
            have HV3 := hid (show V = (bW m && (bP m && onB m.on)) by rw [HV2.out, hb, Bool.true_and])
            clear hb
            go_wp2_with fail
            refine (HS.out _ N1.out).mono ?_
            rintro e w2 ⟨rfl, n2⟩
            have N2 := hid (N1.out.trans n2)
            have B2 := hid (New.blk n2 B1.out)
            have c4 : w2.cell? ⟨w.heap.size, 4, none⟩ = some (.slice pa m.pe.length pc) := B2.out.cellv 4 rfl
            have c6 : w2.cell? ⟨w.heap.size, 6, none⟩ = some (.slice oa m.on.length oc) := B2.out.cellv 6 rfl
            clear n2 c5
            cases hb : bW m with
            | false =>
              have HV := hid (show V = false by rw [HV3.out, hb]; rfl)
              clear hb
              go_wp2
              go_ret
              exact ⟨ret_bool HV.out.symm, N2.out⟩
            | true =>
              have HV4 := hid (show V = (bP m && onB m.on) by rw [HV3.out, hb, Bool.true_and])
              clear hb
              by_cases h20 : m.pe.length ≤ 20
              · have h20I : (m.pe.length : Int) ≤ 20 := by omega
                have HV := hid (show V = onB m.on by rw [HV4.out, HPA.out, decide_eq_true h20, Bool.true_and])
                clear h20
                go_wp2_with fail
                refine (HR.out _ N2.out).mono ?_
                rintro e w4 ⟨rfl, n4⟩
                have N4 := hid (N2.out.trans n4)
                clear n4 c6 c4
                obtain ⟨B, hB⟩ : ∃ B, B = onB m.on := ⟨_, rfl⟩
                rw [← hB] at HV ⊢
                clear hB
                go_wp2
                go_ret
                exact ⟨ret_bool HV.out.symm, N4.out⟩
              · have h20I : ¬ (m.pe.length : Int) ≤ 20 := by omega
                have HV := hid (show V = false by rw [HV4.out, HPA.out, decide_eq_false h20]; rfl)
                clear h20
                go_wp2
                go_ret
                exact ⟨ret_bool HV.out.symm, N2.out⟩
        · have HTB := hid (tops_new n2)
          clear o1 o2 n2
          have HV := hid (show V = false by rw [HVF.out, HTB.out]; rfl)
          go_wp2
          go_ret
          exact ⟨ret_bool HV.out.symm, HN.out⟩
      · rcases sz3 32 32 rfl (by decide) m.new with ⟨n1, n2, n3, n4⟩ | ⟨n1, n5, n2, n3, n4, n6⟩ | ⟨n2, n3, n4, n6⟩
        · have hadd : ∀ w, (Op.stringOp .add m.old m.new).run Tryz.prog w = .ok (.string (m.old ++ m.new)) w := fun w => run_string_add_sum (w := w) _ _ (by omega)
          have q := both_sz m.old m.new
          rw [decide_eq_false o5] at q
          obtain ⟨q1, q2⟩ := (show ((m.old ++ m.new).toList == []) = false ∧ (m.old ++ m.new).toList.isEmpty = false from q)
          have q3 : ((m.old ++ m.new).toList != []) = !false := by rw [bne, q1]
          simp only [Bool.not_true, Bool.not_false] at q3
          obtain ⟨OM, hOM⟩ : ∃ OM, OM = m.old ++ m.new := ⟨_, rfl⟩
          rw [← hOM] at hadd q1 q2 q3
          clear hOM q
          have HTB := hid (show topsB m = true by rw [tops_sz o2 n2, decide_eq_false o5]; rfl)
          clear o1 n1 o5 o2 n2
          have HV1 := hid (show V = (decide (m.name.size ≤ 100) && (bT m && (bW m && (bP m && onB m.on)))) by rw [HVF.out, HTB.out, Bool.true_and])
          by_cases hn : m.name.size ≤ 100
          rotate_left
          · have hI : ¬ (m.name.size : Int) ≤ 100 := by omega
            have HV := hid (show V = false by rw [HV1.out, decide_eq_false hn]; rfl)
            clear hn
            go_wp2
            go_ret
            exact ⟨ret_bool HV.out.symm, HN.out⟩
          have hI : (m.name.size : Int) ≤ 100 := by omega
          have HV2 := hid (show V = (bT m && (bW m && (bP m && onB m.on))) by rw [HV1.out, decide_eq_true hn, Bool.true_and])
          clear hn
          go_wp2_with fail
          refine (HT.out _ HN.out).mono ?_
          rintro e w1 ⟨rfl, n1⟩
          have N1 := hid (HN.out.trans n1)
          have B1 := hid (New.blk n1 HB.out)
          have c5 : w1.cell? ⟨w.heap.size, 5, none⟩ = some (.slice sa m.ws.length sc) := B1.out.cellv 5 rfl
          clear n1
          cases hb : bT m with
          | false =>
            have HV := hid (show V = false by rw [HV2.out, hb]; rfl)
            clear hb
            go_wp2
            go_ret
            exact ⟨ret_bool HV.out.symm, N1.out⟩
          | true =>
            have HV3 := hid (show V = (bW m && (bP m && onB m.on)) by rw [HV2.out, hb, Bool.true_and])
            clear hb
            go_wp2_with fail
            refine (HS.out _ N1.out).mono ?_
            rintro e w2 ⟨rfl, n2⟩
            have N2 := hid (N1.out.trans n2)
            have B2 := hid (New.blk n2 B1.out)
            have c4 : w2.cell? ⟨w.heap.size, 4, none⟩ = some (.slice pa m.pe.length pc) := B2.out.cellv 4 rfl
            have c6 : w2.cell? ⟨w.heap.size, 6, none⟩ = some (.slice oa m.on.length oc) := B2.out.cellv 6 rfl
            clear n2 c5
            cases hb : bW m with
            | false =>
              have HV := hid (show V = false by rw [HV3.out, hb]; rfl)
              clear hb
              go_wp2
              go_ret
              exact ⟨ret_bool HV.out.symm, N2.out⟩
            | true =>
              have HV4 := hid (show V = (bP m && onB m.on) by rw [HV3.out, hb, Bool.true_and])
              clear hb
              by_cases h20 : m.pe.length ≤ 20
              · have h20I : (m.pe.length : Int) ≤ 20 := by omega
                have HV := hid (show V = onB m.on by rw [HV4.out, HPA.out, decide_eq_true h20, Bool.true_and])
                clear h20
                go_wp2_with fail
                refine (HR.out _ N2.out).mono ?_
                rintro e w4 ⟨rfl, n4⟩
                have N4 := hid (N2.out.trans n4)
                clear n4 c6 c4
                obtain ⟨B, hB⟩ : ∃ B, B = onB m.on := ⟨_, rfl⟩
                rw [← hB] at HV ⊢
                clear hB
                go_wp2
                go_ret
                exact ⟨ret_bool HV.out.symm, N4.out⟩
              · have h20I : ¬ (m.pe.length : Int) ≤ 20 := by omega
                have HV := hid (show V = false by rw [HV4.out, HPA.out, decide_eq_false h20]; rfl)
                clear h20
                go_wp2
                go_ret
                exact ⟨ret_bool HV.out.symm, N2.out⟩
        · have hadd : ∀ w, (Op.stringOp .add m.old m.new).run Tryz.prog w = .ok (.string (m.old ++ m.new)) w := fun w => run_string_add_sum (w := w) _ _ (by omega)
          have q := both_sz m.old m.new
          rw [decide_eq_false o5] at q
          obtain ⟨q1, q2⟩ := (show ((m.old ++ m.new).toList == []) = false ∧ (m.old ++ m.new).toList.isEmpty = false from q)
          have q3 : ((m.old ++ m.new).toList != []) = !false := by rw [bne, q1]
          simp only [Bool.not_true, Bool.not_false] at q3
          obtain ⟨OM, hOM⟩ : ∃ OM, OM = m.old ++ m.new := ⟨_, rfl⟩
          rw [← hOM] at hadd q1 q2 q3
          clear hOM q
          have HTB := hid (show topsB m = true by rw [tops_sz o2 n2, decide_eq_false o5]; rfl)
          clear o1 n1 o5 n5 o2 n2
          have HV1 := hid (show V = (decide (m.name.size ≤ 100) && (bT m && (bW m && (bP m && onB m.on)))) by rw [HVF.out, HTB.out, Bool.true_and])
          by_cases hn : m.name.size ≤ 100
          rotate_left
          · have hI : ¬ (m.name.size : Int) ≤ 100 := by omega
            have HV := hid (show V = false by rw [HV1.out, decide_eq_false hn]; rfl)
            clear hn
            go_wp2
            go_ret
            exact ⟨ret_bool HV.out.symm, HN.out⟩
          have hI : (m.name.size : Int) ≤ 100 := by omega
          have HV2 := hid (show V = (bT m && (bW m && (bP m && onB m.on))) by rw [HV1.out, decide_eq_true hn, Bool.true_and])
          clear hn
          go_wp2_with fail
          refine (HT.out _ HN.out).mono ?_
          rintro e w1 ⟨rfl, n1⟩
          have N1 := hid (HN.out.trans n1)
          have B1 := hid (New.blk n1 HB.out)
          have c5 : w1.cell? ⟨w.heap.size, 5, none⟩ = some (.slice sa m.ws.length sc) := B1.out.cellv 5 rfl
          clear n1
          cases hb : bT m with
          | false =>
            have HV := hid (show V = false by rw [HV2.out, hb]; rfl)
            clear hb
            go_wp2
            go_ret
            exact ⟨ret_bool HV.out.symm, N1.out⟩
          | true =>
            have HV3 := hid (show V = (bW m && (bP m && onB m.on)) by rw [HV2.out, hb, Bool.true_and])
            clear hb
            go_wp2_with fail
            refine (HS.out _ N1.out).mono ?_
            rintro e w2 ⟨rfl, n2⟩
            have N2 := hid (N1.out.trans n2)
            have B2 := hid (New.blk n2 B1.out)
            have c4 : w2.cell? ⟨w.heap.size, 4, none⟩ = some (.slice pa m.pe.length pc) := B2.out.cellv 4 rfl
            have c6 : w2.cell? ⟨w.heap.size, 6, none⟩ = some (.slice oa m.on.length oc) := B2.out.cellv 6 rfl
            clear n2 c5
            cases hb : bW m with
            | false =>
              have HV := hid (show V = false by rw [HV3.out, hb]; rfl)
              clear hb
              go_wp2
              go_ret
              exact ⟨ret_bool HV.out.symm, N2.out⟩
            | true =>
              have HV4 := hid (show V = (bP m && onB m.on) by rw [HV3.out, hb, Bool.true_and])
              clear hb
              by_cases h20 : m.pe.length ≤ 20
              · have h20I : (m.pe.length : Int) ≤ 20 := by omega
                have HV := hid (show V = onB m.on by rw [HV4.out, HPA.out, decide_eq_true h20, Bool.true_and])
                clear h20
                go_wp2_with fail
                refine (HR.out _ N2.out).mono ?_
                rintro e w4 ⟨rfl, n4⟩
                have N4 := hid (N2.out.trans n4)
                clear n4 c6 c4
                obtain ⟨B, hB⟩ : ∃ B, B = onB m.on := ⟨_, rfl⟩
                rw [← hB] at HV ⊢
                clear hB
                go_wp2
                go_ret
                exact ⟨ret_bool HV.out.symm, N4.out⟩
              · have h20I : ¬ (m.pe.length : Int) ≤ 20 := by omega
                have HV := hid (show V = false by rw [HV4.out, HPA.out, decide_eq_false h20]; rfl)
                clear h20
                go_wp2
                go_ret
                exact ⟨ret_bool HV.out.symm, N2.out⟩
        · have HTB := hid (tops_new n2)
          clear o1 o5 o2 n2
          have HV := hid (show V = false by rw [HVF.out, HTB.out]; rfl)
          go_wp2
          go_ret
          exact ⟨ret_bool HV.out.symm, HN.out⟩
      · have HTB := hid (tops_old o2)
        clear o2
        have HV := hid (show V = false by rw [HVF.out, HTB.out]; rfl)
        go_wp2
        go_ret
        exact ⟨ret_bool HV.out.symm, HN.out⟩
end Go.Proofs.YtbgmkplpolgebaaGreatDoor
