/-
  Several texts in one, in their build order. The walk of the reference's Same: whether two magnets are one. Condition: both magnets lie as told. Runs of a text that is no field (package bits); are runs as few as possible (package magnet: runs; the reference: only). Condition: the list lies as told.
-/
import Derived.Test.YtbgmkplpolgebaaGreatDoorM29
import Derived.Test.YtbgmkplpolgebaaGreatDoorM30
import Derived.Test.YtbgmkplpolgebaaGreatDoorM18
import Derived.Test.YtbgmkplpolgebaaGreatDoorM17
namespace Go.Proofs.YtbgmkplpolgebaaGreatDoor
set_option linter.unusedSimpArgs false
set_option linter.unusedVariables false
open Go.RowKit Go.Shelf

def sameMg (m n : MgV) : Bool := decide (m.old = n.old) && (decide (m.new = n.new) && (decide (m.name = n.name) && (decide (m.tr = n.tr) && (decide (m.ws = n.ws) && (decide (m.pe = n.pe) && decide (m.on = n.on))))))
theorem neS {a b : ByteArray} (h : a = b) : (a.toList == b.toList) = true ∧ (a.toList != b.toList) = false := by
  subst h
  have : (a.toList == a.toList) = true := beq_self_eq_true _
  exact ⟨this, by rw [bne, this]; rfl⟩
theorem neN {a b : ByteArray} (h : ¬ a = b) : (a.toList == b.toList) = false ∧ (a.toList != b.toList) = true := by
  have : (a.toList == b.toList) = false := by rw [two_eq]; exact decide_eq_false h
  exact ⟨this, by rw [bne, this]; rfl⟩
theorem lenY {a b : Nat} (h : a = b) : ((a : Int) == (b : Int)) = true ∧ ((a : Int) != (b : Int)) = false ∧ (a == b) = true ∧ (a != b) = false := by subst h; simp
theorem lenN {a b : Nat} (h : ¬ a = b) : ((a : Int) == (b : Int)) = false ∧ ((a : Int) != (b : Int)) = true ∧ (a == b) = false ∧ (a != b) = true := by
  have h' : ¬ (a : Int) = b := by omega
  simp [h, h']
set_option maxRecDepth 100000 in
set_option maxHeartbeats 8000000 in
theorem rsame_any (m n : MgV) (p q : MgP) (w : World) (h : MagAt w m p) (k : MagAt w n q) :
    Calls Tryz.prog 10 #[magVal m p, magVal n q] w fun e w' => e = .returned (.bool (sameMg m n)) ∧ New w w' := by
  obtain ⟨ta, tc, pa, pc, sa, sc, oa, oc⟩ := p
  obtain ⟨tb, td, pb, pd, sb, sd, ob, od⟩ := q
  simp only [magVal, magRow]
  have NX : Hid (New w ((w.alloc (.cells #[.string m.old, .string m.new, .string m.name, .slice ta m.tr.length tc, .slice pa m.pe.length pc, .slice sa m.ws.length sc, .slice oa m.on.length oc] 27)).alloc (.cells #[.string n.old, .string n.new, .string n.name, .slice tb n.tr.length td, .slice pb n.pe.length pd, .slice sb n.ws.length sd, .slice ob n.on.length od] 27))) := hid (((Mod.refl _ w).alloc _).alloc _)
  have BA : Hid (Blk ((w.alloc (.cells #[.string m.old, .string m.new, .string m.name, .slice ta m.tr.length tc, .slice pa m.pe.length pc, .slice sa m.ws.length sc, .slice oa m.on.length oc] 27)).alloc (.cells #[.string n.old, .string n.new, .string n.name, .slice tb n.tr.length td, .slice pb n.pe.length pd, .slice sb n.ws.length sd, .slice ob n.on.length od] 27)) w.heap.size #[.string m.old, .string m.new, .string m.name, .slice ta m.tr.length tc, .slice pa m.pe.length pc, .slice sa m.ws.length sc, .slice oa m.on.length oc] 27) := hid ((Blk.new w _ _).alloc _)
  have BB : Hid (Blk ((w.alloc (.cells #[.string m.old, .string m.new, .string m.name, .slice ta m.tr.length tc, .slice pa m.pe.length pc, .slice sa m.ws.length sc, .slice oa m.on.length oc] 27)).alloc (.cells #[.string n.old, .string n.new, .string n.name, .slice tb n.tr.length td, .slice pb n.pe.length pd, .slice sb n.ws.length sd, .slice ob n.on.length od] 27)) (w.heap.size + 1) #[.string n.old, .string n.new, .string n.name, .slice tb n.tr.length td, .slice pb n.pe.length pd, .slice sb n.ws.length sd, .slice ob n.on.length od] 27) := hid (Blk.newAt (by simp))
  have r1 := h.pe.room; have r2 := h.pe.cap; have r3 := k.pe.room; have r4 := k.pe.cap
  have r5 := h.on.room; have r6 := h.on.cap; have r7 := k.on.room; have r8 := k.on.cap
  dsimp only at r1 r2 r3 r4 r5 r6 r7 r8
  unfold maxLen at r2 r4 r6 r8
  have HT := hid (fun W (g : New w W) => texts_any ta tb tc td m.tr n.tr W (h.tr.new g) (k.tr.new g))
  have HW := hid (fun W (g : New w W) => texts_any sa sb sc sd m.ws n.ws W (h.ws.new g) (k.ws.new g))
  have HPA := hid h.pe; have HPB := hid k.pe; have HOA := hid h.on; have HOB := hid k.on
  by_cases e1 : m.old = n.old
  rotate_left
  · have HS := hid (show sameMg m n = false by unfold sameMg; rw [decide_eq_false e1]; rfl)
    obtain ⟨b1, b2⟩ := neN e1
    clear e1
    clear h k
    go_enter Tryz.func10, Tryz.ntmps10
    go_wp2
    go_ret
    exact ⟨ret_bool HS.out.symm, NX.out⟩
  by_cases e2 : m.new = n.new
  rotate_left
  · have HS := hid (show sameMg m n = false by unfold sameMg; rw [decide_eq_false e2, Bool.false_and, Bool.and_false])
    obtain ⟨a1, a2⟩ := neS e1
    obtain ⟨b1, b2⟩ := neN e2
    clear e1 e2
    clear h k
    go_enter Tryz.func10, Tryz.ntmps10
    go_wp2
    go_ret
    exact ⟨ret_bool HS.out.symm, NX.out⟩
  by_cases e3 : m.name = n.name
  rotate_left
  · have HS := hid (show sameMg m n = false by unfold sameMg; rw [decide_eq_false e3, Bool.false_and, Bool.and_false, Bool.and_false])
    obtain ⟨a1, a2⟩ := neS e1
    obtain ⟨a3, a4⟩ := neS e2
    obtain ⟨b1, b2⟩ := neN e3
    clear e1 e2 e3
    clear h k
    go_enter Tryz.func10, Tryz.ntmps10
    go_wp2
    go_ret
    exact ⟨ret_bool HS.out.symm, NX.out⟩
  obtain ⟨a1, a2⟩ := neS e1
  obtain ⟨a3, a4⟩ := neS e2
  obtain ⟨a5, a6⟩ := neS e3
  have HS3 := hid (show sameMg m n = (decide (m.tr = n.tr) && (decide (m.ws = n.ws) && (decide (m.pe = n.pe) && decide (m.on = n.on)))) by unfold sameMg; rw [decide_eq_true e1, decide_eq_true e2, decide_eq_true e3]; rfl)
  clear e1 e2 e3 h k
  by_cases e4 : m.tr = n.tr
  rotate_left
  · have HS := hid (show sameMg m n = false by rw [HS3.out, decide_eq_false e4]; rfl)
    rw [decide_eq_false e4] at HT
    clear e4
    go_enter Tryz.func10, Tryz.ntmps10
    go_wp2_with fail
    refine (HT.out _ NX.out).mono ?_
    rintro e w1 ⟨rfl, n1⟩
    have N1 := hid (NX.out.trans n1)
    have BA1 := hid (New.blk n1 BA.out)
    have BB1 := hid (New.blk n1 BB.out)
    clear n1
    go_wp2
    go_ret
    exact ⟨ret_bool HS.out.symm, N1.out⟩
  rw [decide_eq_true e4] at HT
  by_cases e5 : m.ws = n.ws
  rotate_left
  · have HS := hid (show sameMg m n = false by rw [HS3.out, decide_eq_false e5, Bool.false_and, Bool.and_false])
    rw [decide_eq_false e5] at HW
    clear e4 e5
    go_enter Tryz.func10, Tryz.ntmps10
    go_wp2_with fail
    refine (HT.out _ NX.out).mono ?_
    rintro e w1 ⟨rfl, n1⟩
    have N1 := hid (NX.out.trans n1)
    have BA1 := hid (New.blk n1 BA.out)
    have BB1 := hid (New.blk n1 BB.out)
    clear n1
    have c5 : w1.cell? ⟨w.heap.size, 5, none⟩ = some (.slice sa m.ws.length sc) := BA1.out.cellv 5 rfl
    have d5 : w1.cell? ⟨w.heap.size + 1, 5, none⟩ = some (.slice sb n.ws.length sd) := BB1.out.cellv 5 rfl
    go_wp2_with fail
    refine (HW.out _ N1.out).mono ?_
    rintro e w2 ⟨rfl, n2⟩
    have N2 := hid (N1.out.trans n2)
    have BA2 := hid (New.blk n2 BA1.out)
    have BB2 := hid (New.blk n2 BB1.out)
    clear n2 c5 d5
    have c4 : w2.cell? ⟨w.heap.size, 4, none⟩ = some (.slice pa m.pe.length pc) := BA2.out.cellv 4 rfl
    have d4 : w2.cell? ⟨w.heap.size + 1, 4, none⟩ = some (.slice pb n.pe.length pd) := BB2.out.cellv 4 rfl
    go_wp2
    go_ret
    exact ⟨ret_bool HS.out.symm, N2.out⟩
  rw [decide_eq_true e5] at HW
  have HS5 := hid (show sameMg m n = (decide (m.pe = n.pe) && decide (m.on = n.on)) by rw [HS3.out, decide_eq_true e4, decide_eq_true e5]; rfl)
  clear e4 e5
  by_cases e6 : m.pe.length = n.pe.length
  rotate_left
  · have HS := hid (show sameMg m n = false by rw [HS5.out, decide_eq_false (fun e => e6 (by rw [e]))]; rfl)
    obtain ⟨b1, b2, b3, b4⟩ := lenN e6
    go_enter Tryz.func10, Tryz.ntmps10
    go_wp2_with fail
    refine (HT.out _ NX.out).mono ?_
    rintro e w1 ⟨rfl, n1⟩
    have N1 := hid (NX.out.trans n1)
    have BA1 := hid (New.blk n1 BA.out)
    have BB1 := hid (New.blk n1 BB.out)
    clear n1
    have c5 : w1.cell? ⟨w.heap.size, 5, none⟩ = some (.slice sa m.ws.length sc) := BA1.out.cellv 5 rfl
    have d5 : w1.cell? ⟨w.heap.size + 1, 5, none⟩ = some (.slice sb n.ws.length sd) := BB1.out.cellv 5 rfl
    go_wp2_with fail
    refine (HW.out _ N1.out).mono ?_
    rintro e w2 ⟨rfl, n2⟩
    have N2 := hid (N1.out.trans n2)
    have BA2 := hid (New.blk n2 BA1.out)
    have BB2 := hid (New.blk n2 BB1.out)
    clear n2 c5 d5
    have c4 : w2.cell? ⟨w.heap.size, 4, none⟩ = some (.slice pa m.pe.length pc) := BA2.out.cellv 4 rfl
    have d4 : w2.cell? ⟨w.heap.size + 1, 4, none⟩ = some (.slice pb n.pe.length pd) := BB2.out.cellv 4 rfl
    go_wp2
    go_ret
    exact ⟨ret_bool HS.out.symm, N2.out⟩
  by_cases e7 : m.on.length = n.on.length
  rotate_left
  · have HS := hid (show sameMg m n = false by rw [HS5.out, show decide (m.on = n.on) = false from decide_eq_false (fun e => e7 (by rw [e])), Bool.and_false])
    obtain ⟨b1, b2, b3, b4⟩ := lenY e6
    obtain ⟨f1, f2, f3, f4⟩ := lenN e7
    clear e6
    go_enter Tryz.func10, Tryz.ntmps10
    go_wp2_with fail
    refine (HT.out _ NX.out).mono ?_
    rintro e w1 ⟨rfl, n1⟩
    have N1 := hid (NX.out.trans n1)
    have BA1 := hid (New.blk n1 BA.out)
    have BB1 := hid (New.blk n1 BB.out)
    clear n1
    have c5 : w1.cell? ⟨w.heap.size, 5, none⟩ = some (.slice sa m.ws.length sc) := BA1.out.cellv 5 rfl
    have d5 : w1.cell? ⟨w.heap.size + 1, 5, none⟩ = some (.slice sb n.ws.length sd) := BB1.out.cellv 5 rfl
    go_wp2_with fail
    refine (HW.out _ N1.out).mono ?_
    rintro e w2 ⟨rfl, n2⟩
    have N2 := hid (N1.out.trans n2)
    have BA2 := hid (New.blk n2 BA1.out)
    have BB2 := hid (New.blk n2 BB1.out)
    clear n2 c5 d5
    have c4 : w2.cell? ⟨w.heap.size, 4, none⟩ = some (.slice pa m.pe.length pc) := BA2.out.cellv 4 rfl
    have d4 : w2.cell? ⟨w.heap.size + 1, 4, none⟩ = some (.slice pb n.pe.length pd) := BB2.out.cellv 4 rfl
    have c6 : w2.cell? ⟨w.heap.size, 6, none⟩ = some (.slice oa m.on.length oc) := BA2.out.cellv 6 rfl
    have d6 : w2.cell? ⟨w.heap.size + 1, 6, none⟩ = some (.slice ob n.on.length od) := BB2.out.cellv 6 rfl
    go_wp2
    go_ret
    exact ⟨ret_bool HS.out.symm, N2.out⟩
  obtain ⟨b1, b2, b3, b4⟩ := lenY e6
  obtain ⟨f1, f2, f3, f4⟩ := lenY e7
  have E6 := hid e6; have E7 := hid e7
  clear e6 e7
  go_enter Tryz.func10, Tryz.ntmps10
  go_wp2_with fail
  refine (HT.out _ NX.out).mono ?_
  rintro e w1 ⟨rfl, n1⟩
  have N1 := hid (NX.out.trans n1)
  have BA1 := hid (New.blk n1 BA.out)
  have BB1 := hid (New.blk n1 BB.out)
  clear n1
  have c5 : w1.cell? ⟨w.heap.size, 5, none⟩ = some (.slice sa m.ws.length sc) := BA1.out.cellv 5 rfl
  have d5 : w1.cell? ⟨w.heap.size + 1, 5, none⟩ = some (.slice sb n.ws.length sd) := BB1.out.cellv 5 rfl
  go_wp2_with fail
  refine (HW.out _ N1.out).mono ?_
  rintro e w2 ⟨rfl, n2⟩
  have N2 := hid (N1.out.trans n2)
  have BA2 := hid (New.blk n2 BA1.out)
  have BB2 := hid (New.blk n2 BB1.out)
  clear n2 c5 d5
  have c4 : w2.cell? ⟨w.heap.size, 4, none⟩ = some (.slice pa m.pe.length pc) := BA2.out.cellv 4 rfl
  have d4 : w2.cell? ⟨w.heap.size + 1, 4, none⟩ = some (.slice pb n.pe.length pd) := BB2.out.cellv 4 rfl
  have c6 : w2.cell? ⟨w.heap.size, 6, none⟩ = some (.slice oa m.on.length oc) := BA2.out.cellv 6 rfl
  have d6 : w2.cell? ⟨w.heap.size + 1, 6, none⟩ = some (.slice ob n.on.length od) := BB2.out.cellv 6 rfl
  have HPA2 := hid (HPA.out.new N2.out); have HPB2 := hid (HPB.out.new N2.out); have HOA2 := hid (HOA.out.new N2.out); have HOB2 := hid (HOB.out.new N2.out)
  go_wp2_with fail
  clear b1 b2 b3 b4 f1 f2 f3 f4 c4 d4 c6 d6
  go_loopw [63] (fun i wr => ∃ j : Nat, i = .int .i64 j ∧ j ≤ m.pe.length ∧ (∀ (i : Nat) (h1 : i < m.pe.length) (h2 : i < n.pe.length), i < j → m.pe[i] = n.pe[i]) ∧ New w2 wr) (fun i _ => m.pe.length - (intOf i).toNat)
  case atStart => exact ⟨0, rfl, by omega, by intros; omega, Mod.refl _ _⟩
  case round =>
    obtain ⟨j, rfl, hj, hb, hn⟩ := hrel
    have HB := hid hb
    have HN : Hid (New w wr) := hid (N2.out.trans hn)
    have HN2 := hid hn
    clear hb hn
    by_cases hlt : j < m.pe.length
    · have hlt2 : j < n.pe.length := by have := E6.out; omega
      obtain ⟨b1, o1, hpe1, hb1, hc1⟩ := (HPA2.out.new HN2.out).get (by omega)
      obtain ⟨b2, o2, hpe2, hb2, hc2⟩ := (HPB2.out.new HN2.out).get (by omega)
      obtain ⟨x0, x1, x2⟩ := hc1 j hlt
      obtain ⟨y0, y1, y2⟩ := hc2 j hlt2
      have c4 : wr.cell? ⟨w.heap.size, 4, none⟩ = some (.slice (some ⟨b1, o1, none⟩) m.pe.length pc) := by rw [← hpe1]; exact (New.blk HN2.out BA2.out).cellv 4 rfl
      have d4 : wr.cell? ⟨w.heap.size + 1, 4, none⟩ = some (.slice (some ⟨b2, o2, none⟩) n.pe.length pd) := by rw [← hpe2]; exact (New.blk HN2.out BB2.out).cellv 4 rfl
      have HNE := hid (fun he => show sameMg m n = false by rw [HS5.out, decide_eq_false (eqL_not (p := m.pe) (q := n.pe) hlt hlt2 he)]; rfl)
      obtain ⟨x, hx⟩ : ∃ x, x = m.pe[j] := ⟨_, rfl⟩
      obtain ⟨y, hy⟩ : ∃ y, y = n.pe[j] := ⟨_, rfl⟩
      rw [← hx] at x0 x1 x2 HNE
      rw [← hy] at y0 y1 y2 HNE
      have HXY := hid (And.intro hx hy)
      clear hx hy hpe1 hpe2 hc1 hc2
      by_cases h1 : x.fam = y.fam
      · have q1 : (x.fam == y.fam) = true := by rw [beq_iff_eq]; exact h1
        by_cases h2 : x.ip = y.ip
        · have q2 : (x.ip.toList == y.ip.toList) = true := toL_iff.2 h2
          by_cases h3 : x.port = y.port
          · have q3 : (x.port == y.port) = true := by rw [beq_iff_eq]; exact h3
            have HE := hid (adr_eq h1 h2 h3)
            clear h1 h2 h3
            go_wp2_with fail
            go_region_held3 (fun w' => w'.cell? ⟨w.heap.size, 4, none⟩ = some (.slice (some ⟨b1, o1, none⟩) m.pe.length pc) ∧ w'.cell? ⟨w.heap.size + 1, 4, none⟩ = some (.slice (some ⟨b2, o2, none⟩) n.pe.length pd) ∧ w'.cell? ⟨b1, o1 + j * 3, none⟩ = some (.int .i64 x.fam) ∧ w'.cell? ⟨b1, o1 + j * 3 + 1, none⟩ = some (.string x.ip) ∧ w'.cell? ⟨b1, o1 + j * 3 + 2, none⟩ = some (.int .i64 x.port) ∧ w'.cell? ⟨b2, o2 + j * 3, none⟩ = some (.int .i64 y.fam) ∧ w'.cell? ⟨b2, o2 + j * 3 + 1, none⟩ = some (.string y.ip) ∧ w'.cell? ⟨b2, o2 + j * 3 + 2, none⟩ = some (.int .i64 y.port)) (go_keep) (fail)
            go_wp2
            exact ⟨⟨j + 1, by simp, by omega, fun i h1 h2 hi => by rcases Nat.lt_succ_iff_lt_or_eq.1 hi with q | q; exact HB.out i h1 h2 q; subst q; exact HXY.out.1.symm.trans (HE.out.trans HXY.out.2), HN2.out.drew⟩, by simp [intOf]; omega⟩
          · have q3 : (x.port == y.port) = false := by rw [beq_eq_false_iff_ne]; exact h3
            have HE := hid (HNE.out (fun e => h3 (by rw [e])))
            clear h1 h2 h3
            go_wp2_with fail
            go_region_held3 (fun w' => w'.cell? ⟨w.heap.size, 4, none⟩ = some (.slice (some ⟨b1, o1, none⟩) m.pe.length pc) ∧ w'.cell? ⟨w.heap.size + 1, 4, none⟩ = some (.slice (some ⟨b2, o2, none⟩) n.pe.length pd) ∧ w'.cell? ⟨b1, o1 + j * 3, none⟩ = some (.int .i64 x.fam) ∧ w'.cell? ⟨b1, o1 + j * 3 + 1, none⟩ = some (.string x.ip) ∧ w'.cell? ⟨b1, o1 + j * 3 + 2, none⟩ = some (.int .i64 x.port) ∧ w'.cell? ⟨b2, o2 + j * 3, none⟩ = some (.int .i64 y.fam) ∧ w'.cell? ⟨b2, o2 + j * 3 + 1, none⟩ = some (.string y.ip) ∧ w'.cell? ⟨b2, o2 + j * 3 + 2, none⟩ = some (.int .i64 y.port)) (go_keep) (fail)
            go_wp2
            go_ret
            exact ⟨ret_bool HE.out.symm, HN.out.drew⟩
        · have q2 : (x.ip.toList == y.ip.toList) = false := by rw [two_eq]; exact decide_eq_false h2
          have HE := hid (HNE.out (fun e => h2 (by rw [e])))
          clear h1 h2
          go_wp2_with fail
          go_region_held3 (fun w' => w'.cell? ⟨w.heap.size, 4, none⟩ = some (.slice (some ⟨b1, o1, none⟩) m.pe.length pc) ∧ w'.cell? ⟨w.heap.size + 1, 4, none⟩ = some (.slice (some ⟨b2, o2, none⟩) n.pe.length pd) ∧ w'.cell? ⟨b1, o1 + j * 3, none⟩ = some (.int .i64 x.fam) ∧ w'.cell? ⟨b1, o1 + j * 3 + 1, none⟩ = some (.string x.ip) ∧ w'.cell? ⟨b1, o1 + j * 3 + 2, none⟩ = some (.int .i64 x.port) ∧ w'.cell? ⟨b2, o2 + j * 3, none⟩ = some (.int .i64 y.fam) ∧ w'.cell? ⟨b2, o2 + j * 3 + 1, none⟩ = some (.string y.ip) ∧ w'.cell? ⟨b2, o2 + j * 3 + 2, none⟩ = some (.int .i64 y.port)) (go_keep) (fail)
          go_wp2
          go_ret
          exact ⟨ret_bool HE.out.symm, HN.out.drew⟩
      · have q1 : (x.fam == y.fam) = false := by rw [beq_eq_false_iff_ne]; exact h1
        have HE := hid (HNE.out (fun e => h1 (by rw [e])))
        clear h1
        go_wp2_with fail
        go_region_held3 (fun w' => w'.cell? ⟨w.heap.size, 4, none⟩ = some (.slice (some ⟨b1, o1, none⟩) m.pe.length pc) ∧ w'.cell? ⟨w.heap.size + 1, 4, none⟩ = some (.slice (some ⟨b2, o2, none⟩) n.pe.length pd) ∧ w'.cell? ⟨b1, o1 + j * 3, none⟩ = some (.int .i64 x.fam) ∧ w'.cell? ⟨b1, o1 + j * 3 + 1, none⟩ = some (.string x.ip) ∧ w'.cell? ⟨b1, o1 + j * 3 + 2, none⟩ = some (.int .i64 x.port) ∧ w'.cell? ⟨b2, o2 + j * 3, none⟩ = some (.int .i64 y.fam) ∧ w'.cell? ⟨b2, o2 + j * 3 + 1, none⟩ = some (.string y.ip) ∧ w'.cell? ⟨b2, o2 + j * 3 + 2, none⟩ = some (.int .i64 y.port)) (go_keep) (fail)
        go_wp2
        go_ret
        exact ⟨ret_bool HE.out.symm, HN.out.drew⟩
    · have HE6 := hid (show sameMg m n = decide (m.on = n.on) by rw [HS5.out, decide_eq_true (eqL_upto E6.out (fun i h1 h2 => HB.out i h1 h2 (by omega)))]; rfl)
      have BA3 := hid (New.blk HN2.out BA2.out); have BB3 := hid (New.blk HN2.out BB2.out)
      have HOA3 := hid (HOA2.out.new HN2.out); have HOB3 := hid (HOB2.out.new HN2.out)
      have c6 : wr.cell? ⟨w.heap.size, 6, none⟩ = some (.slice oa m.on.length oc) := BA3.out.cellv 6 rfl
      obtain ⟨W3, hW3⟩ : ∃ W3, W3 = wr := ⟨_, rfl⟩
      subst hW3
      go_wp2_with fail
      clear c6
      go_loopw [81] (fun i wr => ∃ j : Nat, i = .int .i64 j ∧ j ≤ m.on.length ∧ (∀ (i : Nat) (h1 : i < m.on.length) (h2 : i < n.on.length), i < j → m.on[i] = n.on[i]) ∧ New W3 wr) (fun i _ => m.on.length - (intOf i).toNat)
      case atStart => exact ⟨0, rfl, by omega, by intros; omega, Mod.refl _ _⟩
      case round =>
        obtain ⟨j, rfl, hj, hb, hn⟩ := hrel
        have HB := hid hb
        have HN3 := hid hn
        have HN := hid (HN.out.trans hn)
        clear hb hn
        by_cases hlt : j < m.on.length
        · have hlt2 : j < n.on.length := by have := E7.out; omega
          obtain ⟨b1, o1, hpe1, hb1, hc1⟩ := (HOA3.out.new HN3.out).get (by omega)
          obtain ⟨b2, o2, hpe2, hb2, hc2⟩ := (HOB3.out.new HN3.out).get (by omega)
          obtain ⟨x0, x1⟩ := hc1 j hlt
          obtain ⟨y0, y1⟩ := hc2 j hlt2
          have c4 : wr.cell? ⟨w.heap.size, 6, none⟩ = some (.slice (some ⟨b1, o1, none⟩) m.on.length oc) := by rw [← hpe1]; exact (New.blk HN3.out BA3.out).cellv 6 rfl
          have d4 : wr.cell? ⟨w.heap.size + 1, 6, none⟩ = some (.slice (some ⟨b2, o2, none⟩) n.on.length od) := by rw [← hpe2]; exact (New.blk HN3.out BB3.out).cellv 6 rfl
          have HNE := hid (fun he => show sameMg m n = false by rw [HE6.out, decide_eq_false (eqL_not (p := m.on) (q := n.on) hlt hlt2 he)])
          obtain ⟨x, hx⟩ : ∃ x, x = m.on[j] := ⟨_, rfl⟩
          obtain ⟨y, hy⟩ : ∃ y, y = n.on[j] := ⟨_, rfl⟩
          rw [← hx] at x0 x1 HNE
          rw [← hy] at y0 y1 HNE
          have HXY := hid (And.intro hx hy)
          clear hx hy hpe1 hpe2 hc1 hc2
          by_cases h1 : x.1 = y.1
          · have q1 : (x.1 == y.1) = true := by rw [beq_iff_eq]; exact h1
            by_cases h2 : x.2 = y.2
            · have q2 : (x.2 == y.2) = true := by rw [beq_iff_eq]; exact h2
              have HE := hid (show x = y from Prod.ext h1 h2)
              clear h1 h2
              go_wp2_with fail
              go_region_held3 (fun w' => w'.cell? ⟨w.heap.size, 6, none⟩ = some (.slice (some ⟨b1, o1, none⟩) m.on.length oc) ∧ w'.cell? ⟨w.heap.size + 1, 6, none⟩ = some (.slice (some ⟨b2, o2, none⟩) n.on.length od) ∧ w'.cell? ⟨b1, o1 + j * 2, none⟩ = some (.int .i64 x.1) ∧ w'.cell? ⟨b1, o1 + j * 2 + 1, none⟩ = some (.int .i64 x.2) ∧ w'.cell? ⟨b2, o2 + j * 2, none⟩ = some (.int .i64 y.1) ∧ w'.cell? ⟨b2, o2 + j * 2 + 1, none⟩ = some (.int .i64 y.2)) (go_keep) (fail)
              go_wp2
              exact ⟨⟨j + 1, by simp, by omega, fun i h1 h2 hi => by rcases Nat.lt_succ_iff_lt_or_eq.1 hi with q | q; exact HB.out i h1 h2 q; subst q; exact HXY.out.1.symm.trans (HE.out.trans HXY.out.2), HN3.out.drew⟩, by simp [intOf]; omega⟩
            · have q2 : (x.2 == y.2) = false := by rw [beq_eq_false_iff_ne]; exact h2
              have HE := hid (HNE.out (fun e => h2 (by rw [e])))
              clear h1 h2
              go_wp2_with fail
              go_region_held3 (fun w' => w'.cell? ⟨w.heap.size, 6, none⟩ = some (.slice (some ⟨b1, o1, none⟩) m.on.length oc) ∧ w'.cell? ⟨w.heap.size + 1, 6, none⟩ = some (.slice (some ⟨b2, o2, none⟩) n.on.length od) ∧ w'.cell? ⟨b1, o1 + j * 2, none⟩ = some (.int .i64 x.1) ∧ w'.cell? ⟨b1, o1 + j * 2 + 1, none⟩ = some (.int .i64 x.2) ∧ w'.cell? ⟨b2, o2 + j * 2, none⟩ = some (.int .i64 y.1) ∧ w'.cell? ⟨b2, o2 + j * 2 + 1, none⟩ = some (.int .i64 y.2)) (go_keep) (fail)
              go_wp2
              go_ret
              exact ⟨ret_bool HE.out.symm, HN.out.drew⟩
          · have q1 : (x.1 == y.1) = false := by rw [beq_eq_false_iff_ne]; exact h1
            have HE := hid (HNE.out (fun e => h1 (by rw [e])))
            clear h1
            go_wp2_with fail
            go_region_held3 (fun w' => w'.cell? ⟨w.heap.size, 6, none⟩ = some (.slice (some ⟨b1, o1, none⟩) m.on.length oc) ∧ w'.cell? ⟨w.heap.size + 1, 6, none⟩ = some (.slice (some ⟨b2, o2, none⟩) n.on.length od) ∧ w'.cell? ⟨b1, o1 + j * 2, none⟩ = some (.int .i64 x.1) ∧ w'.cell? ⟨b1, o1 + j * 2 + 1, none⟩ = some (.int .i64 x.2) ∧ w'.cell? ⟨b2, o2 + j * 2, none⟩ = some (.int .i64 y.1) ∧ w'.cell? ⟨b2, o2 + j * 2 + 1, none⟩ = some (.int .i64 y.2)) (go_keep) (fail)
            go_wp2
            go_ret
            exact ⟨ret_bool HE.out.symm, HN.out.drew⟩
        · have HE := hid (show sameMg m n = true by rw [HE6.out, decide_eq_true (eqL_upto E7.out (fun i h1 h2 => HB.out i h1 h2 (by omega)))])
          go_wp2
          go_ret
          exact ⟨ret_bool HE.out.symm, HN.out⟩
end Go.Proofs.YtbgmkplpolgebaaGreatDoor

namespace Go.Proofs.YtbgmkplpolgebaaGreatDoor
set_option linter.unusedSimpArgs false
set_option linter.unusedVariables false
open Go.RowKit Go.Shelf

set_option maxRecDepth 100000 in
set_option maxHeartbeats 1000000 in
theorem bopen_bad (a c : Nat) (w : World) (ha : w.cell? ⟨a, 0, none⟩ = some (.string ⟨#[]⟩)) (hc : 1 ≤ c) (hc2 : c ≤ maxLen) :
    Calls Tryz.prog 103 #[.int .i64 40, .slice (some ⟨a, 0, none⟩) 1 c] w fun e w' => e = .panicked (toldB 1) ∧ New w w' := by
  unfold maxLen at hc2
  have HW := hid (fun W => bwrong_size 40 ⟨#[]⟩ W (by decide) (by omega) (by show 0 ≤ maxLen; omega))
  have hal := World.block_lt_of_cell? _ _ ha
  go_enter Tryz.func103, Tryz.ntmps103
  go_wp2_with (first | (go_at_call 100; refine (bfail_pass _ _).mono ?_; rintro e w1 ⟨rfl, rfl⟩) | fail)
  refine wp_loop_rounds 1 ?_
  rw [rounds_succ]
  go_wp2_with fail
  refine (HW.out _).mono ?_
  rintro e w1 ⟨⟨x, rfl⟩, n1⟩
  have N1 := hid n1
  clear n1
  go_wp2_with fail
  refine (bfail_raise 1 _).mono ?_
  rintro e w2 ⟨rfl, rfl⟩
  go_wp2
  exact ⟨rfl, rfl, N1.out⟩
set_option maxRecDepth 100000 in
set_option maxHeartbeats 1000000 in
theorem bcaught_toldW {n : Nat} (q : Nat) (k : Int) (w : World) (hq : Blk w q #[.int .i64 0] 28) :
    CallsDIn Fence.wide n Tryz.prog 98 #[.pointer (some ⟨q, 0, none⟩)] (.panicking (toldB k)) w fun e u' w' =>
      e = .returned (.tuple #[]) ∧ u' = .panicking [{ v := .iface 172 (.int .i64 k), recovered := true }] ∧ Blk w' q #[.int .i64 k] 28 ∧ Mod (fun j => j = q) w w' := by
  obtain ⟨q1, q2, q3⟩ := hq.one
  have HQ := hid hq
  clear hq
  unfold toldB
  have hta : ∀ (x : Int) (w : World), (Instr.typeAssert (.iface 172 (.int .i64 x)) 20 172 true).run Tryz.prog w = .ok (.tuple #[.int .i64 x, .bool true]) w := fun _ _ => by simp [Instr.typeAssert, run_underlying Tryz.underlying172, Result.andThen]
  refine callsDwide_of_wpS Tryz.func98 rfl fun c₀ cs hu => ?_
  apply wpS_seq
  apply wpS_region
  simp [wpOpsS, go_sem, recoverD, hu, Tryz.ntmps98, Exit.thenS, show Array.replicate 18 undef = #[undef, undef, undef, undef, undef, undef, undef, undef, undef, undef, undef, undef, undef, undef, undef, undef, undef, undef] from rfl]
  apply wpS_seq
  refine wpS_of_wp ?_
  go_wp2
  refine wpS_cond (t := true) (by simp [Act.eval, Array.replicate]) ?_
  simp only [if_true]
  refine wpS_of_wp ?_
  go_wp2
  refine ⟨rfl, .panicking [{ v := .iface 172 (.int .i64 k), recovered := true }], ?_, .tuple #[], by simp [results, Tryz.results98], rfl, rfl, ?_, ?_⟩
  · first | rfl | (simp; done) | (cases c₀; simp_all)
  · apply Blk.row
    · repeat (first | with_reducible exact HQ.out | (with_reducible apply Blk.newAt; (simp; done)) | with_reducible apply Blk.alloc | with_reducible apply Blk.drew | with_reducible apply Blk.drewN | with_reducible apply Blk.set | (with_reducible apply Blk.other; · first | (simp; done) | (simp; omega) | omega) | (with_reducible apply Blk.putObj; · first | (simp; done) | (simp; omega) | omega))
    · rfl
  · repeat (first | with_reducible exact Mod.refl _ _ | with_reducible refine Mod.alloc ?_ _ | with_reducible refine Mod.drew ?_ | with_reducible refine Mod.drewN ?_ _ | (with_reducible refine Mod.set ?_ _ _ (by first | exact .inl rfl | (right; omega) | (right; simp; done) | (right; simp; omega) | (left; omega) | (left; simp; done) | (left; simp; omega))) | (with_reducible refine Mod.putObj ?_ _ _ (by first | exact .inl rfl | (right; omega) | (right; simp; done) | (right; simp; omega) | (left; omega) | (left; simp; done) | (left; simp; omega))))
set_option maxRecDepth 100000 in
set_option maxHeartbeats 2000000 in
theorem bRuns_bad (w : World) :
    Calls Tryz.prog 41 #[.int .i64 40, .string ⟨#[]⟩] w fun e w' => e = .returned (.tuple #[.slice none 0 0, .int .i64 1]) ∧ New w w' := by
  have HOP := hid (fun a W (q : W.cell? ⟨a, 0, none⟩ = some (.string ⟨#[]⟩)) => bopen_bad a 1 W q (Nat.le_refl _) (by unfold maxLen; omega))
  refine (callsIn_wide (n := 9)).1 ?_
  refine callsIn_of_wp_marks Tryz.func41 rfl trivial ?_ rfl
  simp only [Tryz.ntmps41, List.size_toArray, List.length_cons, List.length_nil, Nat.reduceAdd, Nat.reduceSub, Array.replicate_succ, Array.replicate_zero, List.push_toArray, List.append_toArray, List.nil_append, List.cons_append]
  gi_wp2_with fail
  refine ⟨trivial, (callsIn_wide.2 (HOP.out _ _ ((Blk.newAt (by simp)).cellv 0 rfl))).mono ?_⟩
  rintro e w1 ⟨rfl, n1⟩
  have N1 : Hid (New w w1) := hid (((((Mod.refl _ w).alloc (.cells #[.slice none 0 0] 25)).alloc (.cells #[.int .i64 0] 28)).alloc (.cells #[.string ⟨#[]⟩] 9) : New w _).trans n1)
  have R1 : Hid (Blk w1 w.heap.size #[.slice none 0 0] 25) := hid (New.blk n1 (((Blk.new _ _ _).alloc _).alloc _))
  have E1 : Hid (Blk w1 (w.heap.size + 1) #[.int .i64 0] 28) := hid (New.blk n1 ((Blk.newAt (by simp)).alloc _))
  clear n1
  gi_wp2
  refine ⟨by simp, .inr ⟨fun _ => by omega, _, _, 98, #[.pointer (some ⟨w.heap.size + 1, 0, none⟩)], rfl, by simp [go_sem], fun g _ => trivial, ?_⟩⟩
  refine CallsDIn.mono' (bcaught_toldW (w.heap.size + 1) 1 _ E1.out) ?_
  rintro e u' w9 ⟨rfl, rfl, bq, m9⟩
  have d0 := (m9.blk R1.out (by omega)).cellv 0 rfl; have d1 := bq.cellv 0 rfl
  refine ⟨.tuple #[.slice none 0 0, .int .i64 1], by simp [results, Tryz.results41, go_sem, d0, d1], rfl, N1.out.trans' m9 (fun j h1 h2 => by omega)⟩
theorem frR_nz {n : Nat} {l : List (Int × Int)} {k : Int} (h : frR n l = .error k) : k ≠ 0 := by
  unfold frR at h
  have hS : ∀ (l : List (Int × Int)) (st : Int × List UInt8) (k : Int), frS n l st = .error k → k ≠ 0 := by
    intro l
    induction l with
    | nil => intro st k h; cases h
    | cons r R ih =>
      intro st k h
      simp only [frS] at h
      cases hs : frStep n st r with
      | error k' =>
        rw [hs] at h
        injection h with h
        subst h
        unfold frStep at hs
        split at hs
        · cases hs; decide
        · split at hs
          · cases hs; decide
          · cases hs
      | ok st' => rw [hs] at h; exact ih st' k h
  cases hs : frS n l (0, zerosL n) with
  | error k' => rw [hs] at h; injection h with h; subst h; exact hS _ _ _ hs
  | ok st => rw [hs] at h; cases h
set_option maxHeartbeats 1000000 in
theorem mruns_any (a : Option Addr) (c : Nat) (l : List (Int × Int)) (w : World) (h : RnsAt w a c l) :
    Calls Tryz.prog 35 #[.slice a l.length c] w fun e w' => e = .returned (.bool (onB l)) ∧ New w w' := by
  have hm1 := h.room; have hm2 := h.cap
  unfold maxLen at hm2
  have HFR := hid (bFrom_any 40 l (.slice a l.length c) w h.runs (by omega))
  cases hf : frR 40 l with
  | error k =>
    rw [hf] at HFR
    have hk : (k == 0) = false := by rw [beq_eq_false_iff_ne]; exact frR_nz hf
    have HO := hid (show onB l = false by unfold onB; rw [hf])
    clear h hf
    go_enter Tryz.func35, Tryz.ntmps35
    go_wp2_with fail
    refine HFR.out.mono ?_
    rintro e w1 ⟨rfl, n1⟩
    have N1 := hid n1
    clear n1
    simp only [frE]
    go_wp2_with fail
    refine (bRuns_bad _).mono ?_
    rintro e w2 ⟨rfl, n2⟩
    have N2 := hid (N1.out.trans n2)
    clear n2
    go_wp2
    go_ret
    exact ⟨ret_bool HO.out.symm, N2.out⟩
  | ok f =>
    rw [hf] at HFR
    have HO := hid (show onB l = decide (runsF 40 f = l) by unfold onB; rw [hf])
    have HRN := hid (fun W => bRuns_any 40 (mkB f) W (frR_field hf) (by omega))
    rw [show (mkB f).data.toList = f from rfl] at HRN
    obtain ⟨R, hR⟩ : ∃ R, R = runsF 40 f := ⟨_, rfl⟩
    rw [← hR] at HO HRN
    have HEQ := hid (fun W a' c' (n : New w W) (k : RnsAt W a' c' R) => eqR_any a' a c' c R l W k (h.new n))
    clear hf h hR
    go_enter Tryz.func35, Tryz.ntmps35
    go_wp2_with fail
    refine HFR.out.mono ?_
    rintro e w1 ⟨rfl, n1⟩
    have N1 := hid n1
    clear n1
    simp only [frE]
    go_wp2_with fail
    refine (HRN.out _).mono ?_
    rintro e w2 ⟨v, rfl, ho, n2⟩
    obtain ⟨a', c', rfl, hr⟩ := OwnR.at2 ho
    have N2 := hid (N1.out.trans n2)
    have HR := hid hr
    clear n2 ho hr
    go_wp2_with fail
    refine (HEQ.out _ _ _ N2.out HR.out).mono ?_
    rintro e w3 ⟨rfl, n3⟩
    have N3 := hid (N2.out.trans n3)
    clear n3
    obtain ⟨B, hB⟩ : ∃ B, B = decide (R = l) := ⟨_, rfl⟩
    rw [← hB]
    have HB := hid hB
    clear hB
    go_wp2
    go_ret
    exact ⟨ret_bool (by rw [HO.out, HB.out]), N3.out⟩
set_option maxHeartbeats 1000000 in
theorem ronly_any (a : Option Addr) (c : Nat) (l : List (Int × Int)) (w : World) (h : RnsAt w a c l) :
    Calls Tryz.prog 63 #[.slice a l.length c] w fun e w' => e = .returned (.bool (onB l)) ∧ New w w' := by
  have hm1 := h.room; have hm2 := h.cap
  unfold maxLen at hm2
  have HFR := hid (rFrom_any 40 l (.slice a l.length c) w h.runs (by omega))
  cases hf : frR 40 l with
  | error k =>
    rw [hf] at HFR
    have hk : (k == 0) = false := by rw [beq_eq_false_iff_ne]; exact frR_nz hf
    have HO := hid (show onB l = false by unfold onB; rw [hf])
    clear h hf
    go_enter Tryz.func63, Tryz.ntmps63
    go_wp2_with fail
    refine HFR.out.mono ?_
    rintro e w1 ⟨rfl, n1⟩
    have N1 := hid n1
    clear n1
    simp only [frE]
    go_wp2
    go_ret
    exact ⟨ret_bool HO.out.symm, N1.out⟩
  | ok f =>
    rw [hf] at HFR
    have HO := hid (onB_len hf)
    have HRN := hid (fun W => rRuns_any 40 (mkB f) W (frR_field hf) (by omega))
    rw [show (mkB f).data.toList = f from rfl] at HRN
    obtain ⟨R, hR⟩ : ∃ R, R = runsF 40 f := ⟨_, rfl⟩
    rw [← hR] at HO HRN
    clear hf h hR
    go_enter Tryz.func63, Tryz.ntmps63
    go_wp2_with fail
    refine HFR.out.mono ?_
    rintro e w1 ⟨rfl, n1⟩
    have N1 := hid n1
    clear n1
    simp only [frE]
    go_wp2_with fail
    refine (HRN.out _).mono ?_
    rintro e w2 ⟨v, rfl, ho, n2⟩
    obtain ⟨a', c', rfl, hr⟩ := OwnR.at2 ho
    have N2 := hid (N1.out.trans n2)
    have r1 := hr.room; have r2 := hr.cap
    unfold maxLen at r2
    clear n2 ho hr
    by_cases he : R.length = l.length
    · obtain ⟨b1, b2, b3, b4⟩ := lenY he
      have HOK := hid (show onB l = true by rw [← HO.out]; exact decide_eq_true he)
      clear he
      go_wp2
      go_ret
      exact ⟨ret_bool HOK.out.symm, N2.out⟩
    · obtain ⟨b1, b2, b3, b4⟩ := lenN he
      have HOK := hid (show onB l = false by rw [← HO.out]; exact decide_eq_false he)
      go_wp2
      go_ret
      exact ⟨ret_bool HOK.out.symm, N2.out⟩
set_option maxHeartbeats 1000000 in
theorem rbound_any (a : Option Addr) (c : Nat) (p : List ByteArray) (w : World) (h : StrsAt w a c p) :
    Calls Tryz.prog 62 #[.slice a p.length c] w fun e w' => e = .returned (.bool (decide (p.length ≤ 10) && p.all textM)) ∧ New w w' := by
  have hm1 := h.room; have hm2 := h.cap
  unfold maxLen at hm2
  obtain ⟨R, hR⟩ : ∃ R, R = (decide (p.length ≤ 10) && p.all textM) := ⟨_, rfl⟩
  rw [← hR]
  have HR := hid hR
  clear hR
  by_cases hz : 0 < p.length
  · obtain ⟨b1, o1, rfl, hb1, hc1⟩ := h.get hz
    have HS := hid h.small
    have HC1 := hid hc1
    clear h hc1
    go_enter Tryz.func62, Tryz.ntmps62
    go_wp2
    go_loopw [7] (fun i wr => ∃ k : Nat, i = .int .i64 k ∧ k ≤ p.length ∧ (∀ (j : Nat) (hj : j < p.length), j < k → textM p[j] = true) ∧ wr = w) (fun i _ => p.length - (intOf i).toNat)
    case atStart => exact ⟨0, rfl, by omega, by intros; omega, rfl⟩
    case round =>
      obtain ⟨k, rfl, hk, hb, rfl⟩ := hrel
      have HB := hid hb
      clear hb
      by_cases hlt : k < p.length
      · have g1 := HC1.out k hlt
        have hsz := HS.out _ (List.getElem_mem hlt)
        have HNO := hid (fun he => all_not (f := textM) hlt he)
        have HYE := hid (fun (he : textM p[k] = true) (j : Nat) (hj : j < p.length) (h : j < k + 1) => show textM p[j] = true by rcases Nat.lt_succ_iff_lt_or_eq.1 h with h | h; exact HB.out j hj h; subst h; exact he)
        obtain ⟨x, hx⟩ : ∃ x, x = p[k] := ⟨_, rfl⟩
        rw [← hx] at g1 HNO HYE hsz
        unfold maxLen at hsz
        have hl : x.data.toList.length = x.size := by rw [Array.length_toList]; rfl
        clear hx
        by_cases h0 : x.size = 0
        · have hx0 : x.data.toList = [] := List.eq_nil_of_length_eq_zero (by omega)
          have e1 : (x.toList == []) = true := by rw [beq_iff_eq, ByteArray.toList_eq]; exact hx0
          have e2 : x.toList.isEmpty = true := by rw [ByteArray.toList_eq, hx0]; rfl
          have HRN := hid (show R = false by rw [HR.out, HNO.out (by unfold textM; rw [show decide (1 ≤ x.size) = false from decide_eq_false (by omega)]; rfl), Bool.and_false])
          clear hx0 h0 hl
          go_wp2
          go_ret
          exact ⟨ret_bool HRN.out.symm, Mod.refl _ _⟩
        · have hx0 : x.data.toList ≠ [] := fun e => by rw [e] at hl; exact h0 hl.symm
          have e1 : (x.toList == []) = false := by rw [beq_eq_false_iff_ne, ByteArray.toList_eq]; exact hx0
          have e2 : x.toList.isEmpty = false := by
            rw [ByteArray.toList_eq]
            cases hq : x.data.toList with
            | nil => exact absurd hq hx0
            | cons a b => rfl
          by_cases h2 : 200 < x.size
          · have hI : (200 : Int) < (x.size : Int) := by omega
            have HRN := hid (show R = false by rw [HR.out, HNO.out (by unfold textM; rw [show decide (x.size ≤ 200) = false from decide_eq_false (by omega), Bool.and_false]), Bool.and_false])
            clear hx0 h0 hl h2
            go_wp2
            go_ret
            exact ⟨ret_bool HRN.out.symm, Mod.refl _ _⟩
          · have hI : ¬ (200 : Int) < (x.size : Int) := by omega
            have HE := hid (HYE.out (by unfold textM; rw [show decide (1 ≤ x.size) = true from decide_eq_true (by omega), show decide (x.size ≤ 200) = true from decide_eq_true (by omega)]; rfl))
            clear hx0 h0 hl h2
            go_wp2
            exact ⟨⟨k + 1, by simp, by omega, HE.out, trivial⟩, by simp [intOf]; omega⟩
      · have HE := hid (all_upto hlt (fun j hj h => HB.out j hj h))
        by_cases h10 : p.length ≤ 10
        · have hI : (p.length : Int) ≤ 10 := by omega
          have HRN := hid (show R = true by rw [HR.out, HE.out, decide_eq_true h10]; rfl)
          clear h10
          go_wp2
          go_ret
          exact ⟨ret_bool HRN.out.symm, Mod.refl _ _⟩
        · have hI : ¬ (p.length : Int) ≤ 10 := by omega
          have HRN := hid (show R = false by rw [HR.out, decide_eq_false h10]; rfl)
          clear h10
          go_wp2
          go_ret
          exact ⟨ret_bool HRN.out.symm, Mod.refl _ _⟩
  · obtain rfl : p = [] := List.eq_nil_of_length_eq_zero (by omega)
    have HRN := hid (show R = true by rw [HR.out]; rfl)
    clear h
    go_enter Tryz.func62, Tryz.ntmps62
    go_wp2
    refine wp_loop_rounds 1 ?_
    rw [rounds_succ]
    go_wp2
    go_ret
    exact ⟨ret_bool HRN.out.symm, Mod.refl _ _⟩
end Go.Proofs.YtbgmkplpolgebaaGreatDoor
