/-
  Several texts in one, in their build order. Whether two magnets are one (package magnet: Same); slices.Equal of texts. Condition: the magnets lie as told. The reference's part, whatever the key. Conditions: the reader lies as told and is right; the text is small.
-/
import Derived.Test.YtbgmkplpolgebaaGreatDoorM31
import Derived.Test.YtbgmkplpolgebaaGreatDoorM43
import Derived.Test.YtbgmkplpolgebaaGreatDoorM22
import Derived.Test.YtbgmkplpolgebaaGreatDoorM36
namespace Go.Proofs.YtbgmkplpolgebaaGreatDoor
set_option linter.unusedSimpArgs false
set_option linter.unusedVariables false
open Go.RowKit Go.Shelf

set_option maxRecDepth 100000 in
set_option maxHeartbeats 4000000 in
theorem eqS_any (a b : Option Addr) (c d : Nat) (p q : List ByteArray) (w : World) (hp : StrsAt w a c p) (hq : StrsAt w b d q) :
    Calls Tryz.prog 64 #[.slice a p.length c, .slice b q.length d] w fun e w' => e = .returned (.bool (decide (p = q))) ∧ New w w' := by
  have hm1 := hp.room; have hm2 := hp.cap; have hm3 := hq.room; have hm4 := hq.cap
  unfold maxLen at hm2 hm4
  by_cases hl : p.length = q.length
  rotate_left
  · have HE := hid (show p ≠ q from fun h => hl (by rw [h]))
    clear hp hq
    go_enter Tryz.func64, Tryz.ntmps64
    go_wp2
    go_ret
    exact ⟨ret_bool (decide_eq_false HE.out).symm, Mod.refl _ _⟩
  by_cases hz : 0 < p.length
  rotate_left
  · obtain rfl : p = [] := List.eq_nil_of_length_eq_zero (by omega)
    obtain rfl : q = [] := List.eq_nil_of_length_eq_zero (by simpa using hl.symm)
    clear hp hq
    go_enter Tryz.func64, Tryz.ntmps64
    go_wp2
    refine wp_loop_rounds 1 ?_
    rw [rounds_succ]
    go_wp2
    go_ret
    exact ⟨ret_bool (by simp), Mod.refl _ _⟩
  obtain ⟨b1, o1, rfl, hb1, hc1⟩ := hp.get hz
  obtain ⟨b2, o2, rfl, hb2, hc2⟩ := hq.get (by omega)
  have HL := hid hl
  have HC1 := hid hc1; have HC2 := hid hc2
  rw [← hl]
  clear hp hq hl hc1 hc2
  go_enter Tryz.func64, Tryz.ntmps64
  go_wp2
  go_loopw [13] (fun i wr => ∃ k : Nat, i = .int .i64 k ∧ k ≤ p.length ∧ (∀ (j : Nat) (h1 : j < p.length) (h2 : j < q.length), j < k → p[j] = q[j]) ∧ New w wr) (fun i _ => p.length - (intOf i).toNat)
  case atStart => exact ⟨0, rfl, by omega, by intros; omega, Mod.refl _ _⟩
  case round =>
    obtain ⟨k, rfl, hk, hb, hn⟩ := hrel
    have HB := hid hb
    have HN := hid hn
    clear hb
    by_cases hlt : k < p.length
    · have hlt2 : k < q.length := by have := HL.out; omega
      have x0 := HC1.out k hlt
      have y0 := HC2.out k hlt2
      have x0 := hn.cellv x0; have y0 := hn.cellv y0
      have HNE := hid (fun he => eqL_not (p := p) (q := q) hlt hlt2 he)
      obtain ⟨x, hx⟩ : ∃ x, x = p[k] := ⟨_, rfl⟩
      obtain ⟨y, hy⟩ : ∃ y, y = q[k] := ⟨_, rfl⟩
      rw [← hx] at x0 HNE
      rw [← hy] at y0 HNE
      have HXY := hid (And.intro hx hy)
      clear hx hy hn
      by_cases h1 : x = y
      · obtain ⟨c1, c2⟩ := neS h1
        have HE := hid h1
        clear h1
        go_wp2_with fail
        go_region_held3 (fun w' => w'.cell? ⟨b1, o1 + k, none⟩ = some (.string x) ∧ w'.cell? ⟨b2, o2 + k, none⟩ = some (.string y)) (go_keep) (fail)
        go_wp2
        exact ⟨⟨k + 1, by simp, by omega, fun j h1 h2 hj => by rcases Nat.lt_succ_iff_lt_or_eq.1 hj with h | h; exact HB.out j h1 h2 h; subst h; exact HXY.out.1.symm.trans (HE.out.trans HXY.out.2), HN.out.drew⟩, by simp [intOf]; omega⟩
      · obtain ⟨c1, c2⟩ := neN h1
        have HE := hid (HNE.out h1)
        clear h1
        go_wp2_with fail
        go_region_held3 (fun w' => w'.cell? ⟨b1, o1 + k, none⟩ = some (.string x) ∧ w'.cell? ⟨b2, o2 + k, none⟩ = some (.string y)) (go_keep) (fail)
        go_wp2
        go_ret
        exact ⟨ret_bool (decide_eq_false HE.out).symm, HN.out.drew⟩
    · have HE := hid (eqL_upto HL.out (fun j h1 h2 => HB.out j h1 h2 (by omega)))
      clear hn
      go_wp2
      go_ret
      exact ⟨ret_bool (decide_eq_true HE.out).symm, HN.out⟩
set_option maxRecDepth 100000 in
set_option maxHeartbeats 8000000 in
theorem msame_any (m n : MgV) (p q : MgP) (w : World) (h : MagAt w m p) (k : MagAt w n q) :
    Calls Tryz.prog 20 #[magVal m p, magVal n q] w fun e w' => e = .returned (.bool (sameMg m n)) ∧ New w w' := by
  obtain ⟨ta, tc, pa, pc, sa, sc, oa, oc⟩ := p
  obtain ⟨tb, td, pb, pd, sb, sd, ob, od⟩ := q
  simp only [magVal, magRow]
  have NX : Hid (New w ((w.alloc (.cells #[.string m.old, .string m.new, .string m.name, .slice ta m.tr.length tc, .slice pa m.pe.length pc, .slice sa m.ws.length sc, .slice oa m.on.length oc] 27)).alloc (.cells #[.string n.old, .string n.new, .string n.name, .slice tb n.tr.length td, .slice pb n.pe.length pd, .slice sb n.ws.length sd, .slice ob n.on.length od] 27))) := hid (((Mod.refl _ w).alloc _).alloc _)
  have BA : Hid (Blk ((w.alloc (.cells #[.string m.old, .string m.new, .string m.name, .slice ta m.tr.length tc, .slice pa m.pe.length pc, .slice sa m.ws.length sc, .slice oa m.on.length oc] 27)).alloc (.cells #[.string n.old, .string n.new, .string n.name, .slice tb n.tr.length td, .slice pb n.pe.length pd, .slice sb n.ws.length sd, .slice ob n.on.length od] 27)) w.heap.size #[.string m.old, .string m.new, .string m.name, .slice ta m.tr.length tc, .slice pa m.pe.length pc, .slice sa m.ws.length sc, .slice oa m.on.length oc] 27) := hid ((Blk.new w _ _).alloc _)
  have BB : Hid (Blk ((w.alloc (.cells #[.string m.old, .string m.new, .string m.name, .slice ta m.tr.length tc, .slice pa m.pe.length pc, .slice sa m.ws.length sc, .slice oa m.on.length oc] 27)).alloc (.cells #[.string n.old, .string n.new, .string n.name, .slice tb n.tr.length td, .slice pb n.pe.length pd, .slice sb n.ws.length sd, .slice ob n.on.length od] 27)) (w.heap.size + 1) #[.string n.old, .string n.new, .string n.name, .slice tb n.tr.length td, .slice pb n.pe.length pd, .slice sb n.ws.length sd, .slice ob n.on.length od] 27) := hid (Blk.newAt (by simp))
  have HT := hid (fun W (g : New w W) => eqS_any ta tb tc td m.tr n.tr W (h.tr.new g) (k.tr.new g))
  have HP := hid (fun W (g : New w W) => eqA_any pa pb pc pd m.pe n.pe W (h.pe.new g) (k.pe.new g))
  have HW := hid (fun W (g : New w W) => eqS_any sa sb sc sd m.ws n.ws W (h.ws.new g) (k.ws.new g))
  have HO := hid (fun W (g : New w W) => eqR_any oa ob oc od m.on n.on W (h.on.new g) (k.on.new g))
  clear h k
  by_cases e1 : m.old = n.old
  rotate_left
  · have HS := hid (show sameMg m n = false by unfold sameMg; rw [decide_eq_false e1]; rfl)
    obtain ⟨b1, b2⟩ := neN e1
    clear e1
    go_enter Tryz.func20, Tryz.ntmps20
    go_wp2
    go_ret
    exact ⟨ret_bool HS.out.symm, NX.out⟩
  by_cases e2 : m.new = n.new
  rotate_left
  · have HS := hid (show sameMg m n = false by unfold sameMg; rw [decide_eq_false e2, Bool.false_and, Bool.and_false])
    obtain ⟨a1, a2⟩ := neS e1
    obtain ⟨b1, b2⟩ := neN e2
    clear e1 e2
    go_enter Tryz.func20, Tryz.ntmps20
    go_wp2
    go_ret
    exact ⟨ret_bool HS.out.symm, NX.out⟩
  by_cases e3 : m.name = n.name
  rotate_left
  · have HS := hid (show sameMg m n = false by unfold sameMg; rw [decide_eq_false e3, Bool.false_and, Bool.and_false, Bool.and_false])
    obtain ⟨a1, a2⟩ := neS e1
    obtain ⟨a3, a4⟩ := neS e2
    obtain ⟨b1, b2⟩ := neN e3
    clear e1 e2 e3
    go_enter Tryz.func20, Tryz.ntmps20
    go_wp2
    go_ret
    exact ⟨ret_bool HS.out.symm, NX.out⟩
  obtain ⟨a1, a2⟩ := neS e1
  obtain ⟨a3, a4⟩ := neS e2
  obtain ⟨a5, a6⟩ := neS e3
  have HS3 := hid (show sameMg m n = (decide (m.tr = n.tr) && (decide (m.ws = n.ws) && (decide (m.pe = n.pe) && decide (m.on = n.on)))) by unfold sameMg; rw [decide_eq_true e1, decide_eq_true e2, decide_eq_true e3]; rfl)
  clear e1 e2 e3
  by_cases e4 : m.tr = n.tr
  rotate_left
  · have HS := hid (show sameMg m n = false by rw [HS3.out, decide_eq_false e4]; rfl)
    rw [decide_eq_false e4] at HT
    clear e4
    go_enter Tryz.func20, Tryz.ntmps20
    go_wp2_with fail
    refine (HT.out _ NX.out).mono ?_
    rintro e w1 ⟨rfl, n1⟩
    have N1 := hid (NX.out.trans n1)
    have BA1 := hid (New.blk n1 BA.out)
    have BB1 := hid (New.blk n1 BB.out)
    clear n1
    go_wp2
    go_ret
    exact ⟨ret_bool HS.out.symm, N1.out⟩
  rw [decide_eq_true e4] at HT
  by_cases e6 : m.pe = n.pe
  rotate_left
  · have HS := hid (show sameMg m n = false by rw [HS3.out, decide_eq_false e6, Bool.false_and, Bool.and_false, Bool.and_false])
    rw [decide_eq_false e6] at HP
    clear e4 e6
    go_enter Tryz.func20, Tryz.ntmps20
    go_wp2_with fail
    refine (HT.out _ NX.out).mono ?_
    rintro e w1 ⟨rfl, n1⟩
    have N1 := hid (NX.out.trans n1)
    have BA1 := hid (New.blk n1 BA.out)
    have BB1 := hid (New.blk n1 BB.out)
    clear n1
    have c4 : w1.cell? ⟨w.heap.size, 4, none⟩ = some (.slice pa m.pe.length pc) := BA1.out.cellv 4 rfl
    have d4 : w1.cell? ⟨w.heap.size + 1, 4, none⟩ = some (.slice pb n.pe.length pd) := BB1.out.cellv 4 rfl
    go_wp2_with fail
    refine (HP.out _ N1.out).mono ?_
    rintro e w2 ⟨rfl, n2⟩
    have N2 := hid (N1.out.trans n2)
    have BA2 := hid (New.blk n2 BA1.out)
    have BB2 := hid (New.blk n2 BB1.out)
    clear n2 c4 d4
    go_wp2
    go_ret
    exact ⟨ret_bool HS.out.symm, N2.out⟩
  rw [decide_eq_true e6] at HP
  by_cases e5 : m.ws = n.ws
  rotate_left
  · have HS := hid (show sameMg m n = false by rw [HS3.out, decide_eq_false e5, Bool.false_and, Bool.and_false])
    rw [decide_eq_false e5] at HW
    clear e4 e5 e6
    go_enter Tryz.func20, Tryz.ntmps20
    go_wp2_with fail
    refine (HT.out _ NX.out).mono ?_
    rintro e w1 ⟨rfl, n1⟩
    have N1 := hid (NX.out.trans n1)
    have BA1 := hid (New.blk n1 BA.out)
    have BB1 := hid (New.blk n1 BB.out)
    clear n1
    have c4 : w1.cell? ⟨w.heap.size, 4, none⟩ = some (.slice pa m.pe.length pc) := BA1.out.cellv 4 rfl
    have d4 : w1.cell? ⟨w.heap.size + 1, 4, none⟩ = some (.slice pb n.pe.length pd) := BB1.out.cellv 4 rfl
    go_wp2_with fail
    refine (HP.out _ N1.out).mono ?_
    rintro e w2 ⟨rfl, n2⟩
    have N2 := hid (N1.out.trans n2)
    have BA2 := hid (New.blk n2 BA1.out)
    have BB2 := hid (New.blk n2 BB1.out)
    clear n2 c4 d4
    have c5 : w2.cell? ⟨w.heap.size, 5, none⟩ = some (.slice sa m.ws.length sc) := BA2.out.cellv 5 rfl
    have d5 : w2.cell? ⟨w.heap.size + 1, 5, none⟩ = some (.slice sb n.ws.length sd) := BB2.out.cellv 5 rfl
    go_wp2_with fail
    refine (HW.out _ N2.out).mono ?_
    rintro e w3 ⟨rfl, n3⟩
    have N3 := hid (N2.out.trans n3)
    have BA3 := hid (New.blk n3 BA2.out)
    have BB3 := hid (New.blk n3 BB2.out)
    clear n3 c5 d5
    go_wp2
    go_ret
    exact ⟨ret_bool HS.out.symm, N3.out⟩
  rw [decide_eq_true e5] at HW
  have HS := hid (show sameMg m n = decide (m.on = n.on) by rw [HS3.out, decide_eq_true e4, decide_eq_true e5, decide_eq_true e6]; rfl)
  clear e4 e5 e6 HS3
  obtain ⟨Z, hZ⟩ : ∃ Z, Z = decide (m.on = n.on) := ⟨_, rfl⟩
  rw [← hZ] at HS HO
  clear hZ
  go_enter Tryz.func20, Tryz.ntmps20
  go_wp2_with fail
  refine (HT.out _ NX.out).mono ?_
  rintro e w1 ⟨rfl, n1⟩
  have N1 := hid (NX.out.trans n1)
  have BA1 := hid (New.blk n1 BA.out)
  have BB1 := hid (New.blk n1 BB.out)
  clear n1
  have c4 : w1.cell? ⟨w.heap.size, 4, none⟩ = some (.slice pa m.pe.length pc) := BA1.out.cellv 4 rfl
  have d4 : w1.cell? ⟨w.heap.size + 1, 4, none⟩ = some (.slice pb n.pe.length pd) := BB1.out.cellv 4 rfl
  go_wp2_with fail
  refine (HP.out _ N1.out).mono ?_
  rintro e w2 ⟨rfl, n2⟩
  have N2 := hid (N1.out.trans n2)
  have BA2 := hid (New.blk n2 BA1.out)
  have BB2 := hid (New.blk n2 BB1.out)
  clear n2 c4 d4
  have c5 : w2.cell? ⟨w.heap.size, 5, none⟩ = some (.slice sa m.ws.length sc) := BA2.out.cellv 5 rfl
  have d5 : w2.cell? ⟨w.heap.size + 1, 5, none⟩ = some (.slice sb n.ws.length sd) := BB2.out.cellv 5 rfl
  go_wp2_with fail
  refine (HW.out _ N2.out).mono ?_
  rintro e w3 ⟨rfl, n3⟩
  have N3 := hid (N2.out.trans n3)
  have BA3 := hid (New.blk n3 BA2.out)
  have BB3 := hid (New.blk n3 BB2.out)
  clear n3 c5 d5
  have c6 : w3.cell? ⟨w.heap.size, 6, none⟩ = some (.slice oa m.on.length oc) := BA3.out.cellv 6 rfl
  have d6 : w3.cell? ⟨w.heap.size + 1, 6, none⟩ = some (.slice ob n.on.length od) := BB3.out.cellv 6 rfl
  go_wp2_with fail
  refine (HO.out _ N3.out).mono ?_
  rintro e w4 ⟨rfl, n4⟩
  have N4 := hid (N3.out.trans n4)
  clear n4 c6 d6
  cases Z with
  | true =>
    go_wp2
    go_ret
    exact ⟨ret_bool HS.out.symm, N4.out⟩
  | false =>
    go_wp2
    go_ret
    exact ⟨ret_bool HS.out.symm, N4.out⟩
end Go.Proofs.YtbgmkplpolgebaaGreatDoor

namespace Go.Proofs.YtbgmkplpolgebaaGreatDoor
set_option linter.unusedSimpArgs false
set_option linter.unusedVariables false
open Go.RowKit Go.Shelf

end Go.Proofs.YtbgmkplpolgebaaGreatDoor
