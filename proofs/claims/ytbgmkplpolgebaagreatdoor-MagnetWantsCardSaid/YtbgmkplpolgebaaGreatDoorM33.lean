/-
  Several texts in one, in their build order. What the reference's reading of an address finds in an address's text. Plain Lean, no program. No condition. The reference's addresses: Valid, group, text. Conditions: the address is right. The walks of Valid (package magnet, and the reference), of any magnet. Condition: the magnet lies as told.
-/
import Derived.Test.YtbgmkplpolgebaaGreatDoorM16
import Derived.Test.YtbgmkplpolgebaaGreatDoorM9
import Derived.Test.YtbgmkplpolgebaaGreatDoorM22
import Derived.Test.YtbgmkplpolgebaaGreatDoorM11
import Derived.Test.YtbgmkplpolgebaaGreatDoorM32
import Derived.Deep.DeepCutAuto
namespace Go.Proofs.YtbgmkplpolgebaaGreatDoor
set_option linter.unusedSimpArgs false
set_option linter.unusedVariables false

end Go.Proofs.YtbgmkplpolgebaaGreatDoor

namespace Go.Proofs.YtbgmkplpolgebaaGreatDoor
set_option linter.unusedSimpArgs false
set_option linter.unusedVariables false
open Go.RowKit Go.Shelf

set_option maxRecDepth 100000 in
set_option maxHeartbeats 1000000 in
theorem rAdrValid_any (x : AdrV) (w : World) : Calls Tryz.prog 61 #[.agg #[.int .i64 x.fam, .string x.ip, .int .i64 x.port]] w fun e w' => e = .returned (.bool (adrOk x)) ∧ New w w' := by
  obtain ⟨fam, ip, port⟩ := x
  simp only
  have HV := hid (show adrOk ⟨fam, ip, port⟩ = (((fam == 4) && ((ip.size : Int) == 4) || (fam == 6) && ((ip.size : Int) == 16)) && decide (1 ≤ port) && decide (port ≤ 65535)) by
    unfold adrOk
    have h1 : ((ip.size : Int) == 4) = decide (ip.size = 4) := by rw [Bool.eq_iff_iff, beq_iff_eq, decide_eq_true_eq]; omega
    have h2 : ((ip.size : Int) == 16) = decide (ip.size = 16) := by rw [Bool.eq_iff_iff, beq_iff_eq, decide_eq_true_eq]; omega
    have h3 : (fam == 4) = decide (fam = 4) := by rw [Bool.eq_iff_iff, beq_iff_eq, decide_eq_true_eq]
    have h4 : (fam == 6) = decide (fam = 6) := by rw [Bool.eq_iff_iff, beq_iff_eq, decide_eq_true_eq]
    rw [h1, h2, h3, h4])
  have B0 := Blk.new w #[.int .i64 fam, .string ip, .int .i64 port] 64
  have c0 := B0.cellv 0 rfl; have c1 := B0.cellv 1 rfl; have c2 := B0.cellv 2 rfl
  clear B0
  have key : ∀ (a b c d e f : Bool), (fam == 4) = a → ((ip.size : Int) == 4) = b → (fam == 6) = c → ((ip.size : Int) == 16) = d → decide (1 ≤ port) = e → decide (port ≤ 65535) = f → Calls Tryz.prog 61 #[.agg #[.int .i64 fam, .string ip, .int .i64 port]] w fun e w' => e = .returned (.bool (adrOk ⟨fam, ip, port⟩)) ∧ New w w' := by
    intro a b c d e f ha hb hc hd he hf
    rw [ha, hb, hc, hd, he, hf] at HV
    have he2 : decide (port ≥ 1) = e := he
    cases a <;> cases b <;> cases c <;> cases d <;> cases e <;> cases f <;> (
      go_enter Tryz.func61, Tryz.ntmps61
      go_wp2
      go_ret
      exact ⟨ret_bool HV.out.symm, (Mod.refl _ _).alloc _⟩)
  exact key _ _ _ _ _ _ rfl rfl rfl rfl rfl rfl
end Go.Proofs.YtbgmkplpolgebaaGreatDoor

namespace Go.Proofs.YtbgmkplpolgebaaGreatDoor
set_option linter.unusedSimpArgs false
set_option linter.unusedVariables false
open Go.RowKit Go.Shelf

theorem sz3 (n : Nat) (z : Int) (hz : z = (n : Int)) (hn : n ≠ 0) (s : ByteArray) : (s.size = 0 ∧ lenOr n s = true ∧ (s.toList == []) = true ∧ s.toList.isEmpty = true) ∨ (s.size = n ∧ s.size ≠ 0 ∧ lenOr n s = true ∧ (s.toList == []) = false ∧ s.toList.isEmpty = false ∧ ((s.size : Int) == z) = true) ∨ (lenOr n s = false ∧ (s.toList == []) = false ∧ s.toList.isEmpty = false ∧ ((s.size : Int) == z) = false) := by
  have hl : s.data.toList.length = s.size := by rw [Array.length_toList]; rfl
  by_cases h0 : s.size = 0
  · left
    have e : s.data.toList = [] := List.eq_nil_of_length_eq_zero (by omega)
    exact ⟨h0, lenOr_iff.2 (.inl h0), by rw [beq_iff_eq, ByteArray.toList_eq]; exact e, by rw [ByteArray.toList_eq, e]; rfl⟩
  · have e : s.data.toList ≠ [] := fun e => by rw [e] at hl; exact h0 hl.symm
    have e1 : (s.toList == []) = false := by rw [beq_eq_false_iff_ne, ByteArray.toList_eq]; exact e
    have e2 : s.toList.isEmpty = false := by
      rw [ByteArray.toList_eq]
      cases hq : s.data.toList with
      | nil => exact absurd hq e
      | cons a b => rfl
    by_cases h1 : s.size = n
    · exact .inr (.inl ⟨h1, h0, lenOr_iff.2 (.inr h1), e1, e2, by rw [beq_iff_eq]; omega⟩)
    · refine .inr (.inr ⟨?_, e1, e2, by rw [beq_eq_false_iff_ne]; omega⟩)
      cases hq : lenOr n s with
      | false => rfl
      | true => exact absurd (lenOr_iff.1 hq) (by omega)
/-- Two topics, one behind the other. -/
theorem both_sz (a b : ByteArray) : ((a ++ b).toList == []) = (decide (a.size = 0) && decide (b.size = 0)) ∧ (a ++ b).toList.isEmpty = (decide (a.size = 0) && decide (b.size = 0)) := by
  have hl : (a ++ b).data.toList.length = a.size + b.size := by
    rw [Array.length_toList]
    exact ByteArray.size_append
  by_cases h : a.size = 0 ∧ b.size = 0
  · have e : (a ++ b).data.toList = [] := List.eq_nil_of_length_eq_zero (by omega)
    rw [decide_eq_true h.1, decide_eq_true h.2]
    refine ⟨?_, by rw [ByteArray.toList_eq, e]; rfl⟩
    show ((a ++ b).toList == []) = true
    rw [beq_iff_eq, ByteArray.toList_eq]
    exact e
  · have e : (a ++ b).data.toList ≠ [] := fun e => by rw [e] at hl; exact h ⟨by simp at hl; omega, by simp at hl; omega⟩
    have ed : (decide (a.size = 0) && decide (b.size = 0)) = false := by
      rw [Bool.and_eq_false_iff, decide_eq_false_iff_not, decide_eq_false_iff_not]
      omega
    rw [ed]
    refine ⟨by rw [beq_eq_false_iff_ne, ByteArray.toList_eq]; exact e, ?_⟩
    rw [ByteArray.toList_eq]
    cases hq : (a ++ b).data.toList with
    | nil => exact absurd hq e
    | cons a b => rfl
def topsB (m : MgV) : Bool := lenOr 20 m.old && (lenOr 32 m.new && !(decide (m.old.size = 0) && decide (m.new.size = 0)))
def bT (m : MgV) : Bool := decide (m.tr.length ≤ 10) && m.tr.all textM
def bW (m : MgV) : Bool := decide (m.ws.length ≤ 10) && m.ws.all textM
def bP (m : MgV) : Bool := decide (m.pe.length ≤ 20) && m.pe.all adrOk
theorem validMg_form (m : MgV) : validMg m = (topsB m && (decide (m.name.size ≤ 100) && (bT m && (bW m && (bP m && onB m.on))))) := by
  unfold validMg topsB bT bW bP
  simp only [Bool.and_assoc]
theorem tops_old {m : MgV} (h : lenOr 20 m.old = false) : topsB m = false := by unfold topsB; rw [h]; rfl
theorem tops_new {m : MgV} (h : lenOr 32 m.new = false) : topsB m = false := by unfold topsB; rw [h, Bool.false_and, Bool.and_false]
theorem tops_sz {m : MgV} (h : lenOr 20 m.old = true) (k : lenOr 32 m.new = true) : topsB m = !(decide (m.old.size = 0) && decide (m.new.size = 0)) := by unfold topsB; rw [h, k]; rfl
set_option maxRecDepth 100000 in
set_option maxHeartbeats 8000000 in
theorem mValid_any (m : MgV) (p : MgP) (w : World) (h : MagAt w m p) :
    Calls Tryz.prog 11 #[magVal m p] w fun e w' => e = .returned (.bool (validMg m)) ∧ New w w' := by
  obtain ⟨ta, tc, pa, pc, sa, sc, oa, oc⟩ := p
  simp only [magVal, magRow]
  have BX : Hid (Blk (w.alloc (.cells #[.string m.old, .string m.new, .string m.name, .slice ta m.tr.length tc, .slice pa m.pe.length pc, .slice sa m.ws.length sc, .slice oa m.on.length oc] 27)) w.heap.size #[.string m.old, .string m.new, .string m.name, .slice ta m.tr.length tc, .slice pa m.pe.length pc, .slice sa m.ws.length sc, .slice oa m.on.length oc] 27) := hid (Blk.new w _ _)
  have NX : Hid (New w (w.alloc (.cells #[.string m.old, .string m.new, .string m.name, .slice ta m.tr.length tc, .slice pa m.pe.length pc, .slice sa m.ws.length sc, .slice oa m.on.length oc] 27))) := hid ((Mod.refl _ w).alloc _)
  have HT := hid (fun W (n : New w W) => allT_any 10 ta tc m.tr W (h.tr.new n))
  have HS := hid (fun W (n : New w W) => allT_any 10 sa sc m.ws W (h.ws.new n))
  have HP := hid (fun W (n : New w W) => allA_any 20 pa pc m.pe W (h.pe.new n))
  have HR := hid (fun W (n : New w W) => mruns_any oa oc m.on W (h.on.new n))
  rw [show (decide (m.tr.length ≤ 10) && m.tr.all textM) = bT m from rfl] at HT
  rw [show (decide (m.ws.length ≤ 10) && m.ws.all textM) = bW m from rfl] at HS
  rw [show (decide (m.pe.length ≤ 20) && m.pe.all adrOk) = bP m from rfl] at HP
  have HVF := hid (validMg_form m)
  obtain ⟨V, hV⟩ : ∃ V, V = validMg m := ⟨_, rfl⟩
  rw [← hV] at HVF ⊢
  clear h hV
  go_enter Tryz.func11, Tryz.ntmps11
  go_upto_region 1 with fail
  go_cut [3] (fun s3 wx => s3 = .bool (topsB m) ∧ wx = w.alloc (.cells #[.string m.old, .string m.new, .string m.name, .slice ta m.tr.length tc, .slice pa m.pe.length pc, .slice sa m.ws.length sc, .slice oa m.on.length oc] 27))
  case first =>
    rcases sz3 20 20 rfl (by decide) m.old with ⟨o1, o2, o3, o4⟩ | ⟨o1, o5, o2, o3, o4, o6⟩ | ⟨o2, o3, o4, o6⟩
    · rcases sz3 32 32 rfl (by decide) m.new with ⟨n1, n2, n3, n4⟩ | ⟨n1, n5, n2, n3, n4, n6⟩ | ⟨n2, n3, n4, n6⟩
      · have hadd : ∀ w, (Op.stringOp .add m.old m.new).run Tryz.prog w = .ok (.string (m.old ++ m.new)) w := fun w => run_string_add_sum (w := w) _ _ (by omega)
        have q := both_sz m.old m.new
        rw [decide_eq_true o1, decide_eq_true n1] at q
        obtain ⟨q1, q2⟩ := (show ((m.old ++ m.new).toList == []) = true ∧ (m.old ++ m.new).toList.isEmpty = true from q)
        have q3 : ((m.old ++ m.new).toList != []) = !true := by rw [bne, q1]
        simp only [Bool.not_true, Bool.not_false] at q3
        obtain ⟨OM, hOM⟩ : ∃ OM, OM = m.old ++ m.new := ⟨_, rfl⟩
        rw [← hOM] at hadd q1 q2 q3
        clear hOM q
        have HTB := hid (show topsB m = false by rw [tops_sz o2 n2, decide_eq_true o1, decide_eq_true n1]; rfl)
        clear o1 n1 o2 n2
        go_wp2
        go_meet
        exact ⟨by rw [HTB.out], rfl⟩
      · have hadd : ∀ w, (Op.stringOp .add m.old m.new).run Tryz.prog w = .ok (.string (m.old ++ m.new)) w := fun w => run_string_add_sum (w := w) _ _ (by omega)
        have q := both_sz m.old m.new
        rw [decide_eq_true o1, decide_eq_false n5] at q
        obtain ⟨q1, q2⟩ := (show ((m.old ++ m.new).toList == []) = false ∧ (m.old ++ m.new).toList.isEmpty = false from q)
        have q3 : ((m.old ++ m.new).toList != []) = !false := by rw [bne, q1]
        simp only [Bool.not_true, Bool.not_false] at q3
        obtain ⟨OM, hOM⟩ : ∃ OM, OM = m.old ++ m.new := ⟨_, rfl⟩
        rw [← hOM] at hadd q1 q2 q3
        clear hOM q
        have HTB := hid (show topsB m = true by rw [tops_sz o2 n2, decide_eq_true o1, decide_eq_false n5]; rfl)
        clear o1 n1 n5 o2 n2
        go_wp2
        go_meet
        exact ⟨by rw [HTB.out], rfl⟩
      · have HTB := hid (tops_new n2)
        clear o1 o2 n2
        go_wp2
        go_meet
        exact ⟨by rw [HTB.out], rfl⟩
    · rcases sz3 32 32 rfl (by decide) m.new with ⟨n1, n2, n3, n4⟩ | ⟨n1, n5, n2, n3, n4, n6⟩ | ⟨n2, n3, n4, n6⟩
      · have hadd : ∀ w, (Op.stringOp .add m.old m.new).run Tryz.prog w = .ok (.string (m.old ++ m.new)) w := fun w => run_string_add_sum (w := w) _ _ (by omega)
        have q := both_sz m.old m.new
        rw [decide_eq_false o5] at q
        obtain ⟨q1, q2⟩ := (show ((m.old ++ m.new).toList == []) = false ∧ (m.old ++ m.new).toList.isEmpty = false from q)
        have q3 : ((m.old ++ m.new).toList != []) = !false := by rw [bne, q1]
        simp only [Bool.not_true, Bool.not_false] at q3
        obtain ⟨OM, hOM⟩ : ∃ OM, OM = m.old ++ m.new := ⟨_, rfl⟩
        rw [← hOM] at hadd q1 q2 q3
        clear hOM q
        have HTB := hid (show topsB m = true by rw [tops_sz o2 n2, decide_eq_false o5]; rfl)
        clear o1 n1 o5 o2 n2
        go_wp2
        go_meet
        exact ⟨by rw [HTB.out], rfl⟩
      · have hadd : ∀ w, (Op.stringOp .add m.old m.new).run Tryz.prog w = .ok (.string (m.old ++ m.new)) w := fun w => run_string_add_sum (w := w) _ _ (by omega)
        have q := both_sz m.old m.new
        rw [decide_eq_false o5] at q
        obtain ⟨q1, q2⟩ := (show ((m.old ++ m.new).toList == []) = false ∧ (m.old ++ m.new).toList.isEmpty = false from q)
        have q3 : ((m.old ++ m.new).toList != []) = !false := by rw [bne, q1]
        simp only [Bool.not_true, Bool.not_false] at q3
        obtain ⟨OM, hOM⟩ : ∃ OM, OM = m.old ++ m.new := ⟨_, rfl⟩
        rw [← hOM] at hadd q1 q2 q3
        clear hOM q
        have HTB := hid (show topsB m = true by rw [tops_sz o2 n2, decide_eq_false o5]; rfl)
        clear o1 n1 o5 n5 o2 n2
        go_wp2
        go_meet
        exact ⟨by rw [HTB.out], rfl⟩
      · have HTB := hid (tops_new n2)
        clear o1 o5 o2 n2
        go_wp2
        go_meet
        exact ⟨by rw [HTB.out], rfl⟩
    · have HTB := hid (tops_old o2)
      clear o2
      go_wp2
      go_meet
      exact ⟨by rw [HTB.out], rfl⟩
  case rest =>
    obtain ⟨rfl, rfl⟩ := hcut
    cases htb : topsB m with
    | false =>
      have HV := hid (show V = false by rw [HVF.out, htb]; rfl)
      clear htb
      go_wp2
      go_ret
      exact ⟨ret_bool HV.out.symm, NX.out⟩
    | true =>
      have HV1 := hid (show V = (decide (m.name.size ≤ 100) && (bT m && (bW m && (bP m && onB m.on)))) by rw [HVF.out, htb, Bool.true_and])
      clear htb
      by_cases hn : m.name.size ≤ 100
      rotate_left
      · have hI : ¬ (m.name.size : Int) ≤ 100 := by omega
        have HV := hid (show V = false by rw [HV1.out, decide_eq_false hn]; rfl)
        clear hn
        go_wp2
        go_ret
        exact ⟨ret_bool HV.out.symm, NX.out⟩
      have hI : (m.name.size : Int) ≤ 100 := by omega
      have HV2 := hid (show V = (bT m && (bW m && (bP m && onB m.on))) by rw [HV1.out, decide_eq_true hn, Bool.true_and])
      clear hn
      go_wp2_with fail
      refine (HT.out _ NX.out).mono ?_
      rintro e w1 ⟨rfl, n1⟩
      have N1 := hid (NX.out.trans n1)
      have B1 := hid (New.blk n1 BX.out)
      have c5 : w1.cell? ⟨w.heap.size, 5, none⟩ = some (.slice sa m.ws.length sc) := B1.out.cellv 5 rfl
      clear n1
      cases hb : bT m with
      | false =>
        have HV := hid (show V = false by rw [HV2.out, hb]; rfl)
        clear hb
        go_wp2
        go_ret
        exact ⟨ret_bool HV.out.symm, N1.out⟩
      | true =>
        have HV3 := hid (show V = (bW m && (bP m && onB m.on)) by rw [HV2.out, hb, Bool.true_and])
        clear hb
        go_wp2_with fail
        refine (HS.out _ N1.out).mono ?_
        rintro e w2 ⟨rfl, n2⟩
        have N2 := hid (N1.out.trans n2)
        have B2 := hid (New.blk n2 B1.out)
        have c4 : w2.cell? ⟨w.heap.size, 4, none⟩ = some (.slice pa m.pe.length pc) := B2.out.cellv 4 rfl
        clear n2 c5
        cases hb : bW m with
        | false =>
          have HV := hid (show V = false by rw [HV3.out, hb]; rfl)
          clear hb
          go_wp2
          go_ret
          exact ⟨ret_bool HV.out.symm, N2.out⟩
        | true =>
          have HV4 := hid (show V = (bP m && onB m.on) by rw [HV3.out, hb, Bool.true_and])
          clear hb
          go_wp2_with fail
          refine (HP.out _ N2.out).mono ?_
          rintro e w3 ⟨rfl, n3⟩
          have N3 := hid (N2.out.trans n3)
          have B3 := hid (New.blk n3 B2.out)
          have c6 : w3.cell? ⟨w.heap.size, 6, none⟩ = some (.slice oa m.on.length oc) := B3.out.cellv 6 rfl
          clear n3 c4
          cases hb : bP m with
          | false =>
            have HV := hid (show V = false by rw [HV4.out, hb]; rfl)
            clear hb
            go_wp2
            go_ret
            exact ⟨ret_bool HV.out.symm, N3.out⟩
          | true =>
            have HV := hid (show V = onB m.on by rw [HV4.out, hb, Bool.true_and])
            clear hb
            go_wp2_with fail
            refine (HR.out _ N3.out).mono ?_
            rintro e w4 ⟨rfl, n4⟩
            have N4 := hid (N3.out.trans n4)
            clear n4 c6
            obtain ⟨B, hB⟩ : ∃ B, B = onB m.on := ⟨_, rfl⟩
            rw [← hB] at HV ⊢
            clear hB
            go_wp2
            go_ret
            exact ⟨ret_bool HV.out.symm, N4.out⟩
end Go.Proofs.YtbgmkplpolgebaaGreatDoor
