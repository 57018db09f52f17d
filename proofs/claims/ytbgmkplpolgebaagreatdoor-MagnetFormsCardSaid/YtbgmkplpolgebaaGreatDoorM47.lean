/-
  Several texts in one, in their build order. The walk of Format (reference). Conditions: the magnet lies as told.
-/
import Derived.Test.YtbgmkplpolgebaaGreatDoorM45
import Derived.Test.YtbgmkplpolgebaaGreatDoorM6
import Derived.Test.YtbgmkplpolgebaaGreatDoorM18
import Derived.Test.YtbgmkplpolgebaaGreatDoorM22
import Derived.Test.YtbgmkplpolgebaaGreatDoorM40
import Derived.Test.YtbgmkplpolgebaaGreatDoorM46
namespace Go.Proofs.YtbgmkplpolgebaaGreatDoor
set_option linter.unusedSimpArgs false
set_option linter.unusedVariables false
open Go.RowKit Go.Shelf

theorem rAdrText_any (x : AdrV) (w : World) (ok : adrOk x = true) :
    Calls Tryz.prog 59 #[.agg #[.int .i64 x.fam, .string x.ip, .int .i64 x.port]] w fun e w' => e = .returned (.tuple #[.string (mkB (atxt x)), .int .i64 0]) ∧ New w w' := by
  have HV := hid (fun W => rAdrValid_any x W)
  have HT := hid (fun W => rAtxt_any x W ok)
  rw [ok] at HV
  obtain ⟨fam, ip, port⟩ := x
  simp only at HV HT ⊢
  obtain ⟨T, hT⟩ : ∃ T, T = mkB (atxt ⟨fam, ip, port⟩) := ⟨_, rfl⟩
  rw [← hT] at HT ⊢
  have B0 := Blk.new w #[.int .i64 fam, .string ip, .int .i64 port] 64
  have HB0 := hid B0
  have NA := hid ((Mod.refl (fun _ => False) w).alloc (.cells #[.int .i64 fam, .string ip, .int .i64 port] 64))
  have c0 := B0.cellv 0 rfl; have c1 := B0.cellv 1 rfl; have c2 := B0.cellv 2 rfl; have cl := B0.lt
  clear ok hT B0
  go_enter Tryz.func59, Tryz.ntmps59
  go_wp2_with fail
  refine (HV.out _).mono ?_
  rintro e w1 ⟨rfl, n1⟩
  have B1 := New.blk n1 HB0.out
  have N1 := hid (NA.out.trans n1)
  clear c0 c1 c2 cl n1
  have c0 : w1.cell? ⟨w.heap.size, 0, none⟩ = some (.int .i64 fam) := B1.cellv 0 rfl
  have c1 : w1.cell? ⟨w.heap.size, 1, none⟩ = some (.string ip) := B1.cellv 1 rfl
  have c2 : w1.cell? ⟨w.heap.size, 2, none⟩ = some (.int .i64 port) := B1.cellv 2 rfl
  have cl := B1.lt
  clear B1
  go_wp2_with fail
  refine (HT.out _).mono ?_
  rintro e w2 ⟨rfl, n2⟩
  have N2 := hid (N1.out.trans n2)
  clear n2
  go_wp2
  go_ret2
  exact ⟨rfl, N2.out⟩
/-- Where the walk of the reference's Format stands. -/
structure RfS (w0 W : World) (m : MgV) (p : MgP) (v : Value) (L : List ByteArray) : Prop where
  bA : Blk W w0.heap.size (magRow m p) 27
  own : OwnS W (w0.heap.size + 1) v L
  new : New w0 W
theorem RfS.next {w0 W W' : World} {m : MgV} {p : MgP} {v : Value} {L : List ByteArray} (h : RfS w0 W m p v L) (n : New W W') : RfS w0 W' m p v L :=
  ⟨New.blk n h.bA, h.own.new n, h.new.trans n⟩
theorem RfS.push {w0 W w' : World} {m : MgV} {p : MgP} {v o : Value} {L : List ByteArray} {x y : ByteArray} (h : RfS w0 W m p v L) (e : x = y) (hx : x.size ≤ maxLen)
    (r : w'.ownsRow (w0.heap.size + 1) 9 1 o (L.length + 1) (L.map Value.string ++ [.string x])) (g : (W.alloc (.cells #[.string x] 9)).grownBy w' v.ownBlock) : RfS w0 w' m p o (L ++ [y]) := by
  subst e
  have M := ((Mod.refl (fun k => v.ownBlock = some k) W).alloc (.cells #[.string x] 9)).trans (mod_grownS g)
  refine ⟨M.blk h.bA (fun q => ?_), ownS_of h.own.small hx r, h.new.trans' M (fun j q1 q2 => ?_)⟩
  · have := (h.own.block q).1
    omega
  · have := (h.own.block q2).1
    omega
theorem RfS.same {w0 W : World} {m : MgV} {p : MgP} {v : Value} {L L' : List ByteArray} (h : RfS w0 W m p v L) (e : L = L') : RfS w0 W m p v L' := e ▸ h
theorem kv_two (u k : ByteArray) (l : List UInt8) (X : ByteArray) (h : u.data.toList = k.data.toList ++ [61]) (hX : X = ⟨l.toArray⟩) : u ++ X = kvB k (mkB l) := by
  subst hX
  apply bytes_ext
  unfold kvB
  simp [mkB, h]
theorem wtL_take : ∀ (L : List (List UInt8)) (k : Nat), wtL (L.take k) ≤ wtL L
  | [], k => by simp [wtL]
  | x :: L, 0 => by simp [wtL]
  | x :: L, k + 1 => by
    have := wtL_take L k
    show x.length + 1 + wtL (L.take k) ≤ x.length + 1 + wtL L
    omega
set_option maxRecDepth 100000 in
set_option maxHeartbeats 16000000 in
theorem rFormat_ok (m : MgV) (p : MgP) (w : World) (h : MagAt w m p) (ok : VOk m) :
    Calls Tryz.prog 18 #[magVal m p] w fun e w' => e = .returned (.tuple #[.string (mkB (magT m)), .int .i64 0]) ∧ New w w' := by
  have HVA := hid (fun W (n : New w W) => rValid_any m p W (h.new n))
  rw [validMg_iff.2 ok] at HVA
  have HMA := hid (fun W (n : New w W) => h.new n)
  obtain ⟨ta, tc, pa, pc, sa, sc, oa, oc⟩ := p
  have HTA := hid (fun W (n : New w W) => h.tr.new n)
  have HSA := hid (fun W (n : New w W) => h.ws.new n)
  have HPA := hid (fun W (n : New w W) => h.pe.new n)
  simp only [magVal, magRow] at HVA ⊢
  have HSZ := hid (fmZ_of ok)
  obtain ⟨i0, hi, hz0, hz1, hz2⟩ := info_parts info_strM
  obtain ⟨L1, L2, L3, L4, L5, L6, hFL⟩ := fmL_any m
  have HFL := hid hFL
  have hl0 := hFL.l1; have hl1 := hFL.l2; have hl2 := hFL.l3
  have hl3 : L4.length ≤ 13 := by
    have := HSZ.out.trl
    rw [hFL.d, List.length_append, partsB_listlen]
    omega
  have hl4 : L5.length ≤ 23 := by
    have := HSZ.out.wsl
    rw [hFL.e, List.length_append, partsB_listlen]
    omega
  have hl5 : L6.length ≤ 43 := by
    have := HSZ.out.pel
    rw [hFL.f, List.length_append, partsB_pelen]
    omega
  have HLN := hid (And.intro HSZ.out.trl (And.intro HSZ.out.wsl HSZ.out.pel))
  have HXO := hid (fun W => rhex_any m.old W (by have := HSZ.out.old; omega))
  have HXN := hid (fun W => rhex_any m.new W (by have := HSZ.out.new; omega))
  have HEN := hid (fun W => rescape_any m.name W (by have := HSZ.out.name; omega))
  have hxo : (⟨(hexOf m.old.data.toList).toArray⟩ : ByteArray).size ≤ 64 := by rw [size_list, hexOf_len, size_data]; have := HSZ.out.old; omega
  have hxn : (⟨(hexOf m.new.data.toList).toArray⟩ : ByteArray).size ≤ 64 := by rw [size_list, hexOf_len, size_data]; have := HSZ.out.new; omega
  have hen : (⟨(eOf m.name.data.toList).toArray⟩ : ByteArray).size ≤ 300 := by
    have := eOf_len m.name.data.toList
    rw [size_data] at this
    rw [size_list]
    have := HSZ.out.name
    omega
  obtain ⟨XO, hXO⟩ : ∃ X, X = (⟨(hexOf m.old.data.toList).toArray⟩ : ByteArray) := ⟨_, rfl⟩
  obtain ⟨XN, hXN⟩ : ∃ X, X = (⟨(hexOf m.new.data.toList).toArray⟩ : ByteArray) := ⟨_, rfl⟩
  obtain ⟨EN, hEN⟩ : ∃ X, X = (⟨(eOf m.name.data.toList).toArray⟩ : ByteArray) := ⟨_, rfl⟩
  rw [← hXO] at HXO hxo
  rw [← hXN] at HXN hxn
  rw [← hEN] at HEN hen
  have HUO := hid (show (⟨#[120, 116, 61, 117, 114, 110, 58, 99, 118, 111, 58]⟩ : ByteArray) ++ XO = kvB pXt (mkB (uOld.data.toList ++ hexOf m.old.data.toList)) by
    subst hXO
    apply bytes_ext
    unfold kvB
    simp [mkB, pXt, uOld])
  have HUN := hid (show (⟨#[120, 116, 61, 117, 114, 110, 58, 99, 118, 110, 58]⟩ : ByteArray) ++ XN = kvB pXt (mkB (uNew.data.toList ++ hexOf m.new.data.toList)) by
    subst hXN
    apply bytes_ext
    unfold kvB
    simp [mkB, pXt, uNew])
  have HUE := hid (kv_two ⟨#[100, 110, 61]⟩ pDn (eOf m.name.data.toList) EN rfl hEN)
  have hu8 : (⟨#[120, 116, 61, 117, 114, 110, 58, 99, 118, 111, 58]⟩ : ByteArray).size = 11 := rfl
  have hv8 : (⟨#[120, 116, 61, 117, 114, 110, 58, 99, 118, 110, 58]⟩ : ByteArray).size = 11 := rfl
  have hd3 : (⟨#[100, 110, 61]⟩ : ByteArray).size = 3 := rfl
  have huo : (⟨#[120, 116, 61, 117, 114, 110, 58, 99, 118, 111, 58]⟩ ++ XO : ByteArray).size ≤ 100 := by rw [ByteArray.size_append, hu8]; omega
  have huv : (⟨#[120, 116, 61, 117, 114, 110, 58, 99, 118, 110, 58]⟩ ++ XN : ByteArray).size ≤ 100 := by rw [ByteArray.size_append, hv8]; omega
  have hun : (⟨#[100, 110, 61]⟩ ++ EN : ByteArray).size ≤ 400 := by rw [ByteArray.size_append, hd3]; omega
  clear hXO hXN hEN
  have HOKV := hid ok
  have NX : Hid (New w (w.alloc (.cells #[.string m.old, .string m.new, .string m.name, .slice ta m.tr.length tc, .slice pa m.pe.length pc, .slice sa m.ws.length sc, .slice oa m.on.length oc] 27))) := hid ((Mod.refl _ w).alloc _)
  have BX : Hid (Blk (w.alloc (.cells #[.string m.old, .string m.new, .string m.name, .slice ta m.tr.length tc, .slice pa m.pe.length pc, .slice sa m.ws.length sc, .slice oa m.on.length oc] 27)) w.heap.size #[.string m.old, .string m.new, .string m.name, .slice ta m.tr.length tc, .slice pa m.pe.length pc, .slice sa m.ws.length sc, .slice oa m.on.length oc] 27) := hid (Blk.new w _ _)
  clear h ok hFL
  go_enter Tryz.func18, Tryz.ntmps18
  go_wp2_with fail
  refine (HVA.out _ NX.out).mono ?_
  rintro e W3 ⟨rfl, n2⟩
  have F3 : Hid (RfS w W3 m ⟨ta, tc, pa, pc, sa, sc, oa, oc⟩ (.slice none 0 0) []) := hid ⟨New.blk n2 BX.out, OwnS.nil _ _, NX.out.trans n2⟩
  clear n2 NX BX HVA
  obtain ⟨B, hB⟩ : ∃ B, B = decide (¬ m.old.size = 0) := ⟨_, rfl⟩
  go_upto_region 4 with fail
  have f0 := F3.out.bA.cellv 0 rfl; have f1 := F3.out.bA.cellv 1 rfl; have f2 := F3.out.bA.cellv 2 rfl; have f3 := F3.out.bA.cellv 3 rfl; have f4 := F3.out.bA.cellv 4 rfl; have f5 := F3.out.bA.cellv 5 rfl; have f6 := F3.out.bA.cellv 6 rfl; have fl := F3.out.bA.lt
  go_cut [25] (fun s wx => s = .bool B ∧ W3 = wx)
  case first =>
    by_cases hn : m.old.size = 0
    · obtain ⟨x1, x2, x3, -⟩ := strE hn
      have HB := hid (show B = false by rw [hB, decide_eq_false (fun q => q hn)])
      clear hn hB
      go_wp2
      go_meet
      exact ⟨by rw [HB.out] <;> rfl, rfl⟩
    · obtain ⟨x1, x2, x3, -⟩ := strN hn
      have HB := hid (show B = true by rw [hB, decide_eq_true hn])
      clear hn hB
      go_wp2
      go_meet
      exact ⟨by rw [HB.out] <;> rfl, rfl⟩
  case rest =>
    obtain ⟨rfl, rfl⟩ := hcut
    go_upto_if 25 with fail
    go_cut [4] (fun s4 wx => ∃ v, v = s4 ∧ RfS w wx m ⟨ta, tc, pa, pc, sa, sc, oa, oc⟩ v L1)
    case first =>
      cases B with
      | false =>
        have HE := hid (HFL.out.a0 (Decidable.not_not.1 (of_decide_eq_false hB.symm)))
        clear hB
        go_wp2
        go_meet
        exact ⟨_, rfl, F3.out.same HE.out.symm⟩
      | true =>
        have HE := hid (HFL.out.a1 (of_decide_eq_true hB.symm))
        clear hB
        go_wp2_with fail
        refine (HXO.out _).mono ?_
        rintro e w8 ⟨rfl, n8⟩
        have F8 := hid (F3.out.next n8)
        clear n8
        clear f0 f1 f2 f3 f4 f5 f6 fl
        go_wp2_with (first | (at_builtin; refine wpList_append_own_at _ rfl _ _ 23 rfl (w.heap.size + 1) 9 i0 _ 1 16 Tryz.underlying23 hi hz0 hz1 hz2 rfl (by decide) (.slice none 0 0) (([] : List ByteArray)).length ((([] : List ByteArray)).map Value.string) rfl ?zow ⟨_, 0, none⟩ 1 1 [.string (⟨#[120, 116, 61, 117, 114, 110, 58, 99, 118, 111, 58]⟩ ++ XO)] rfl rfl ?zhn ?zh1 ?zh63 ?zhby ?zhba ?_) | fail)
        case zow => exact (F8.out.own.new ((Mod.refl _ _).alloc _)).row
        try case zhn => exact cell_one_new _ _ _
        try case zh1 => first | rfl | (intro u hu; simp at hu; subst hu; rfl)
        case zh63 => first | (unfold maxLen; omega) | (unfold maxLen; simp)
        case zhby => first | omega | simp
        case zhba => have := F8.out.bA.lt; simp; omega
        intro o9 w9 r9 g9 _ _
        have F9 := hid (F8.out.push HUO.out (by unfold maxLen; omega) r9 g9)
        clear r9 g9
        go_wp2
        go_meet
        exact ⟨_, rfl, F9.out.same HE.out.symm⟩
    case rest =>
      rename World => W4
      obtain ⟨v4, rfl, hc⟩ := hcut
      have F4 := hid hc
      clear hc F3
      clear f0 f1 f2 f3 f4 f5 f6 fl
      obtain ⟨B, hB⟩ : ∃ B, B = decide (¬ m.new.size = 0) := ⟨_, rfl⟩
      go_upto_region 6 with fail
      have f0 := F4.out.bA.cellv 0 rfl; have f1 := F4.out.bA.cellv 1 rfl; have f2 := F4.out.bA.cellv 2 rfl; have f3 := F4.out.bA.cellv 3 rfl; have f4 := F4.out.bA.cellv 4 rfl; have f5 := F4.out.bA.cellv 5 rfl; have f6 := F4.out.bA.cellv 6 rfl; have fl := F4.out.bA.lt
      go_cut [35] (fun s wx => s = .bool B ∧ W4 = wx)
      case first =>
        by_cases hn : m.new.size = 0
        · obtain ⟨x1, x2, x3, -⟩ := strE hn
          have HB := hid (show B = false by rw [hB, decide_eq_false (fun q => q hn)])
          clear hn hB
          go_wp2
          go_meet
          exact ⟨by rw [HB.out] <;> rfl, rfl⟩
        · obtain ⟨x1, x2, x3, -⟩ := strN hn
          have HB := hid (show B = true by rw [hB, decide_eq_true hn])
          clear hn hB
          go_wp2
          go_meet
          exact ⟨by rw [HB.out] <;> rfl, rfl⟩
      case rest =>
        obtain ⟨rfl, rfl⟩ := hcut
        go_upto_if 35 with fail
        go_cut [4] (fun s4 wx => ∃ v, v = s4 ∧ RfS w wx m ⟨ta, tc, pa, pc, sa, sc, oa, oc⟩ v L2)
        case first =>
          cases B with
          | false =>
            have HE := hid (HFL.out.b0 (Decidable.not_not.1 (of_decide_eq_false hB.symm)))
            clear hB
            go_wp2
            go_meet
            exact ⟨_, rfl, F4.out.same HE.out.symm⟩
          | true =>
            have HE := hid (HFL.out.b1 (of_decide_eq_true hB.symm))
            clear hB
            go_wp2_with fail
            refine (HXN.out _).mono ?_
            rintro e w8 ⟨rfl, n8⟩
            have F8 := hid (F4.out.next n8)
            clear n8
            clear f0 f1 f2 f3 f4 f5 f6 fl
            go_wp2_with (first | (at_builtin; refine wpList_append_own_at _ rfl _ _ 23 rfl (w.heap.size + 1) 9 i0 _ 1 16 Tryz.underlying23 hi hz0 hz1 hz2 rfl (by decide) v4 (L1).length ((L1).map Value.string) rfl ?zow ⟨_, 0, none⟩ 1 1 [.string (⟨#[120, 116, 61, 117, 114, 110, 58, 99, 118, 110, 58]⟩ ++ XN)] rfl rfl ?zhn ?zh1 ?zh63 ?zhby ?zhba ?_) | fail)
            case zow => exact (F8.out.own.new ((Mod.refl _ _).alloc _)).row
            try case zhn => exact cell_one_new _ _ _
            try case zh1 => first | rfl | (intro u hu; simp at hu; subst hu; rfl)
            case zh63 => first | (unfold maxLen; omega) | (unfold maxLen; simp)
            case zhby => first | omega | simp
            case zhba => have := F8.out.bA.lt; simp; omega
            intro o9 w9 r9 g9 _ _
            have F9 := hid (F8.out.push HUN.out (by unfold maxLen; omega) r9 g9)
            clear r9 g9
            go_wp2
            go_meet
            exact ⟨_, rfl, F9.out.same HE.out.symm⟩
        case rest =>
          rename World => W5
          obtain ⟨v5, rfl, hc⟩ := hcut
          have F5 := hid hc
          clear hc F4
          clear f0 f1 f2 f3 f4 f5 f6 fl
          obtain ⟨B, hB⟩ : ∃ B, B = decide (¬ m.name.size = 0) := ⟨_, rfl⟩
          go_upto_region 8 with fail
          have f0 := F5.out.bA.cellv 0 rfl; have f1 := F5.out.bA.cellv 1 rfl; have f2 := F5.out.bA.cellv 2 rfl; have f3 := F5.out.bA.cellv 3 rfl; have f4 := F5.out.bA.cellv 4 rfl; have f5 := F5.out.bA.cellv 5 rfl; have f6 := F5.out.bA.cellv 6 rfl; have fl := F5.out.bA.lt
          go_cut [45] (fun s wx => s = .bool B ∧ W5 = wx)
          case first =>
            by_cases hn : m.name.size = 0
            · obtain ⟨x1, x2, x3, -⟩ := strE hn
              have HB := hid (show B = false by rw [hB, decide_eq_false (fun q => q hn)])
              clear hn hB
              go_wp2
              go_meet
              exact ⟨by rw [HB.out] <;> rfl, rfl⟩
            · obtain ⟨x1, x2, x3, -⟩ := strN hn
              have HB := hid (show B = true by rw [hB, decide_eq_true hn])
              clear hn hB
              go_wp2
              go_meet
              exact ⟨by rw [HB.out] <;> rfl, rfl⟩
          case rest =>
            obtain ⟨rfl, rfl⟩ := hcut
            go_upto_if 45 with fail
            go_cut [4] (fun s4 wx => ∃ v, v = s4 ∧ RfS w wx m ⟨ta, tc, pa, pc, sa, sc, oa, oc⟩ v L3)
            case first =>
              cases B with
              | false =>
                have HE := hid (HFL.out.c0 (Decidable.not_not.1 (of_decide_eq_false hB.symm)))
                clear hB
                go_wp2
                go_meet
                exact ⟨_, rfl, F5.out.same HE.out.symm⟩
              | true =>
                have HE := hid (HFL.out.c1 (of_decide_eq_true hB.symm))
                clear hB
                go_wp2_with fail
                refine (HEN.out _).mono ?_
                rintro e w8 ⟨rfl, n8⟩
                have F8 := hid (F5.out.next n8)
                clear n8
                clear f0 f1 f2 f3 f4 f5 f6 fl
                go_wp2_with (first | (at_builtin; refine wpList_append_own_at _ rfl _ _ 23 rfl (w.heap.size + 1) 9 i0 _ 1 16 Tryz.underlying23 hi hz0 hz1 hz2 rfl (by decide) v5 (L2).length ((L2).map Value.string) rfl ?zow ⟨_, 0, none⟩ 1 1 [.string (⟨#[100, 110, 61]⟩ ++ EN)] rfl rfl ?zhn ?zh1 ?zh63 ?zhby ?zhba ?_) | fail)
                case zow => exact (F8.out.own.new ((Mod.refl _ _).alloc _)).row
                try case zhn => exact cell_one_new _ _ _
                try case zh1 => first | rfl | (intro u hu; simp at hu; subst hu; rfl)
                case zh63 => first | (unfold maxLen; omega) | (unfold maxLen; simp)
                case zhby => first | omega | simp
                case zhba => have := F8.out.bA.lt; simp; omega
                intro o9 w9 r9 g9 _ _
                have F9 := hid (F8.out.push HUE.out (by unfold maxLen; omega) r9 g9)
                clear r9 g9
                go_wp2
                go_meet
                exact ⟨_, rfl, F9.out.same HE.out.symm⟩
            case rest =>
              rename World => W6
              obtain ⟨v6, rfl, hc⟩ := hcut
              have F6 := hid hc
              clear hc F5
              clear f0 f1 f2 f3 f4 f5 f6 fl
              have f0 := F6.out.bA.cellv 0 rfl; have f1 := F6.out.bA.cellv 1 rfl; have f2 := F6.out.bA.cellv 2 rfl; have f3 := F6.out.bA.cellv 3 rfl; have f4 := F6.out.bA.cellv 4 rfl; have f5 := F6.out.bA.cellv 5 rfl; have f6 := F6.out.bA.cellv 6 rfl; have fl := F6.out.bA.lt
              go_upto_block 0 with fail
              clear f0 f1 f2 f3 f4 f5 f6 fl
              go_cut [4] (fun s4 wx => ∃ v, v = s4 ∧ RfS w wx m ⟨ta, tc, pa, pc, sa, sc, oa, oc⟩ v L4)
              case first =>
                go_wp2_with fail
                go_loopw [56, 4] (fun i o wr => ∃ (k : Nat) (v : Value), i = .int .i64 k ∧ v = o ∧ k ≤ m.tr.length ∧ RfS w wr m ⟨ta, tc, pa, pc, sa, sc, oa, oc⟩ v (L3 ++ partsB (listT pTr (m.tr.take k)))) (fun i _ _ => m.tr.length - (intOf i).toNat)
                case atStart => exact ⟨0, _, rfl, rfl, by omega, by rw [List.take_zero, show partsB (listT pTr []) = [] from rfl, List.append_nil]; exact F6.out⟩
                case round =>
                  obtain ⟨k, v, rfl, rfl, hk, hF⟩ := hrel
                  have HF := hid hF
                  have hlc := HLN.out.1
                  have hLl : (L3 ++ partsB (listT pTr (m.tr.take k))).length ≤ 100 := by
                    have := HLN.out
                    rw [List.length_append, partsB_listlen, List.length_take]
                    omega
                  by_cases hlt : k < m.tr.length
                  · have hltI : (k : Int) < (m.tr.length : Int) := by omega
                    obtain ⟨b1, o1, rfl, -, hc1⟩ := StrsAt.get (HTA.out _ hF.new) (by omega)
                    have g0 := hc1 k hlt
                    have HES := hid (fun W => rescape_any m.tr[k] W (by have := HSZ.out.tr _ (List.getElem_mem hlt); omega))
                    have hes := eOf_len m.tr[k].data.toList
                    have hxs := HSZ.out.tr _ (List.getElem_mem hlt)
                    rw [size_data] at hes
                    have HTK := hid (partsB_take (k := pTr) hlt)
                    obtain ⟨x, hx⟩ : ∃ x, x = m.tr[k] := ⟨_, rfl⟩
                    rw [← hx] at g0 HES hes hxs HTK
                    have hesz : (⟨(eOf x.data.toList).toArray⟩ : ByteArray).size ≤ 600 := by rw [size_list]; omega
                    obtain ⟨LL, hLL⟩ : ∃ LL, LL = L3 ++ partsB (listT pTr (m.tr.take k)) := ⟨_, rfl⟩
                    have HNX := hid (show L3 ++ partsB (listT pTr (m.tr.take (k + 1))) = LL ++ [kvB pTr (mkB (eOf x.data.toList))] by rw [HTK.out, hLL, List.append_assoc])
                    rw [← hLL] at HF hLl
                    obtain ⟨E, hE⟩ : ∃ E, E = (⟨(eOf x.data.toList).toArray⟩ : ByteArray) := ⟨_, rfl⟩
                    have HEQ := hid (kv_two ⟨#[116, 114, 61]⟩ pTr (eOf x.data.toList) E rfl hE)
                    rw [← hE] at HES hesz
                    have hu : (⟨#[116, 114, 61]⟩ : ByteArray).size = 3 := rfl
                    have huE : (⟨#[116, 114, 61]⟩ ++ E : ByteArray).size ≤ 700 := by rw [ByteArray.size_append, hu]; omega
                    clear hc1 hF hx hes hLL HTK hE
                    go_wp2_with fail
                    refine (HES.out _).mono ?_
                    rintro e w8 ⟨rfl, n8⟩
                    have F8 := hid (HF.out.next n8)
                    clear n8 g0
                    go_wp2_with (first | (at_builtin; refine wpList_append_own_at _ rfl _ _ 23 rfl (w.heap.size + 1) 9 i0 _ 1 16 Tryz.underlying23 hi hz0 hz1 hz2 rfl (by decide) v (LL).length ((LL).map Value.string) rfl ?zow ⟨_, 0, none⟩ 1 1 [.string (⟨#[116, 114, 61]⟩ ++ E)] rfl rfl ?zhn ?zh1 ?zh63 ?zhby ?zhba ?_) | fail)
                    case zow => exact (F8.out.own.new ((Mod.refl _ _).alloc _)).row
                    try case zhn => exact cell_one_new _ _ _
                    try case zh1 => first | rfl | (intro u hu; simp at hu; subst hu; rfl)
                    case zh63 => first | (unfold maxLen; omega) | (unfold maxLen; simp)
                    case zhby => first | omega | simp
                    case zhba => have := F8.out.bA.lt; simp; omega
                    intro o9 w9 r9 g9 _ _
                    have F9 := hid (F8.out.push HEQ.out (by unfold maxLen; omega) r9 g9)
                    clear r9 g9
                    go_wp2
                    exact ⟨⟨k + 1, _, by simp, rfl, by omega, F9.out.same HNX.out.symm⟩, by simp [intOf]; omega⟩
                  · obtain rfl : k = m.tr.length := by omega
                    rw [List.take_length] at HF
                    have HE := hid HFL.out.d
                    clear hF hlt hLl
                    go_wp2
                    go_meet
                    exact ⟨_, rfl, HF.out.same HE.out.symm⟩
              case rest =>
                rename World => W7
                obtain ⟨v7, rfl, hc⟩ := hcut
                have F7 := hid hc
                clear hc F6
                have f0 := F7.out.bA.cellv 0 rfl; have f1 := F7.out.bA.cellv 1 rfl; have f2 := F7.out.bA.cellv 2 rfl; have f3 := F7.out.bA.cellv 3 rfl; have f4 := F7.out.bA.cellv 4 rfl; have f5 := F7.out.bA.cellv 5 rfl; have f6 := F7.out.bA.cellv 6 rfl; have fl := F7.out.bA.lt
                go_upto_block 2 with fail
                clear f0 f1 f2 f3 f4 f5 f6 fl
                go_cut [4] (fun s4 wx => ∃ v, v = s4 ∧ RfS w wx m ⟨ta, tc, pa, pc, sa, sc, oa, oc⟩ v L5)
                case first =>
                  go_wp2_with fail
                  go_loopw [70, 4] (fun i o wr => ∃ (k : Nat) (v : Value), i = .int .i64 k ∧ v = o ∧ k ≤ m.ws.length ∧ RfS w wr m ⟨ta, tc, pa, pc, sa, sc, oa, oc⟩ v (L4 ++ partsB (listT pWs (m.ws.take k)))) (fun i _ _ => m.ws.length - (intOf i).toNat)
                  case atStart => exact ⟨0, _, rfl, rfl, by omega, by rw [List.take_zero, show partsB (listT pWs []) = [] from rfl, List.append_nil]; exact F7.out⟩
                  case round =>
                    obtain ⟨k, v, rfl, rfl, hk, hF⟩ := hrel
                    have HF := hid hF
                    have hlc := HLN.out.2.1
                    have hLl : (L4 ++ partsB (listT pWs (m.ws.take k))).length ≤ 100 := by
                      have := HLN.out
                      rw [List.length_append, partsB_listlen, List.length_take]
                      omega
                    by_cases hlt : k < m.ws.length
                    · have hltI : (k : Int) < (m.ws.length : Int) := by omega
                      obtain ⟨b1, o1, rfl, -, hc1⟩ := StrsAt.get (HSA.out _ hF.new) (by omega)
                      have g0 := hc1 k hlt
                      have HES := hid (fun W => rescape_any m.ws[k] W (by have := HSZ.out.ws _ (List.getElem_mem hlt); omega))
                      have hes := eOf_len m.ws[k].data.toList
                      have hxs := HSZ.out.ws _ (List.getElem_mem hlt)
                      rw [size_data] at hes
                      have HTK := hid (partsB_take (k := pWs) hlt)
                      obtain ⟨x, hx⟩ : ∃ x, x = m.ws[k] := ⟨_, rfl⟩
                      rw [← hx] at g0 HES hes hxs HTK
                      have hesz : (⟨(eOf x.data.toList).toArray⟩ : ByteArray).size ≤ 600 := by rw [size_list]; omega
                      obtain ⟨LL, hLL⟩ : ∃ LL, LL = L4 ++ partsB (listT pWs (m.ws.take k)) := ⟨_, rfl⟩
                      have HNX := hid (show L4 ++ partsB (listT pWs (m.ws.take (k + 1))) = LL ++ [kvB pWs (mkB (eOf x.data.toList))] by rw [HTK.out, hLL, List.append_assoc])
                      rw [← hLL] at HF hLl
                      obtain ⟨E, hE⟩ : ∃ E, E = (⟨(eOf x.data.toList).toArray⟩ : ByteArray) := ⟨_, rfl⟩
                      have HEQ := hid (kv_two ⟨#[119, 115, 61]⟩ pWs (eOf x.data.toList) E rfl hE)
                      rw [← hE] at HES hesz
                      have hu : (⟨#[119, 115, 61]⟩ : ByteArray).size = 3 := rfl
                      have huE : (⟨#[119, 115, 61]⟩ ++ E : ByteArray).size ≤ 700 := by rw [ByteArray.size_append, hu]; omega
                      clear hc1 hF hx hes hLL HTK hE
                      go_wp2_with fail
                      refine (HES.out _).mono ?_
                      rintro e w8 ⟨rfl, n8⟩
                      have F8 := hid (HF.out.next n8)
                      clear n8 g0
                      go_wp2_with (first | (at_builtin; refine wpList_append_own_at _ rfl _ _ 23 rfl (w.heap.size + 1) 9 i0 _ 1 16 Tryz.underlying23 hi hz0 hz1 hz2 rfl (by decide) v (LL).length ((LL).map Value.string) rfl ?zow ⟨_, 0, none⟩ 1 1 [.string (⟨#[119, 115, 61]⟩ ++ E)] rfl rfl ?zhn ?zh1 ?zh63 ?zhby ?zhba ?_) | fail)
                      case zow => exact (F8.out.own.new ((Mod.refl _ _).alloc _)).row
                      try case zhn => exact cell_one_new _ _ _
                      try case zh1 => first | rfl | (intro u hu; simp at hu; subst hu; rfl)
                      case zh63 => first | (unfold maxLen; omega) | (unfold maxLen; simp)
                      case zhby => first | omega | simp
                      case zhba => have := F8.out.bA.lt; simp; omega
                      intro o9 w9 r9 g9 _ _
                      have F9 := hid (F8.out.push HEQ.out (by unfold maxLen; omega) r9 g9)
                      clear r9 g9
                      go_wp2
                      exact ⟨⟨k + 1, _, by simp, rfl, by omega, F9.out.same HNX.out.symm⟩, by simp [intOf]; omega⟩
                    · obtain rfl : k = m.ws.length := by omega
                      rw [List.take_length] at HF
                      have HE := hid HFL.out.e
                      clear hF hlt hLl
                      go_wp2
                      go_meet
                      exact ⟨_, rfl, HF.out.same HE.out.symm⟩
                case rest =>
                  rename World => W8
                  obtain ⟨v8, rfl, hc⟩ := hcut
                  have F8 := hid hc
                  clear hc F7
                  have f0 := F8.out.bA.cellv 0 rfl; have f1 := F8.out.bA.cellv 1 rfl; have f2 := F8.out.bA.cellv 2 rfl; have f3 := F8.out.bA.cellv 3 rfl; have f4 := F8.out.bA.cellv 4 rfl; have f5 := F8.out.bA.cellv 5 rfl; have f6 := F8.out.bA.cellv 6 rfl; have fl := F8.out.bA.lt
                  go_upto_block 4 with fail
                  clear f0 f1 f2 f3 f4 f5 f6 fl
                  go_cut [4] (fun s4 wx => ∃ v, v = s4 ∧ RfS w wx m ⟨ta, tc, pa, pc, sa, sc, oa, oc⟩ v L6)
                  case first =>
                    go_wp2_with fail
                    go_loopw [84, 4] (fun i o wr => ∃ (k : Nat) (v : Value), i = .int .i64 k ∧ v = o ∧ k ≤ m.pe.length ∧ RfS w wr m ⟨ta, tc, pa, pc, sa, sc, oa, oc⟩ v (L5 ++ partsB (peT (m.pe.take k)))) (fun i _ _ => m.pe.length - (intOf i).toNat)
                    case atStart => exact ⟨0, _, rfl, rfl, by omega, by rw [List.take_zero, show partsB (peT []) = [] from rfl, List.append_nil]; exact F8.out⟩
                    case round =>
                      obtain ⟨k, v, rfl, rfl, hk, hF⟩ := hrel
                      have HF := hid hF
                      have hlc := HLN.out.2.2
                      have hLl : (L5 ++ partsB (peT (m.pe.take k))).length ≤ 100 := by
                        rw [List.length_append, partsB_pelen, List.length_take]
                        omega
                      by_cases hlt : k < m.pe.length
                      · have hltI : (k : Int) < (m.pe.length : Int) := by omega
                        obtain ⟨b1, o1, rfl, -, hc1⟩ := AdrsAt.get (HPA.out _ hF.new) (by omega)
                        obtain ⟨g0, g1, g2⟩ := hc1 k hlt
                        have hok := HSZ.out.pe _ (List.getElem_mem hlt)
                        have HTX := hid (fun W => rAdrText_any m.pe[k] W hok)
                        have hal := atxt_len hok
                        have HES := hid (fun W => rescape_any (mkB (atxt m.pe[k])) W (by rw [mkB_sz]; omega))
                        have hes := eOf_len (atxt m.pe[k])
                        have HTK := hid (partsB_takeP hlt)
                        obtain ⟨x, hx⟩ : ∃ x, x = m.pe[k] := ⟨_, rfl⟩
                        rw [← hx] at g0 g1 g2 HES hes HTK HTX hal
                        rw [show (mkB (atxt x)).data.toList = atxt x from rfl] at HES
                        have hesz : (⟨(eOf (atxt x)).toArray⟩ : ByteArray).size ≤ 600 := by rw [size_list]; omega
                        obtain ⟨LL, hLL⟩ : ∃ LL, LL = L5 ++ partsB (peT (m.pe.take k)) := ⟨_, rfl⟩
                        have HNX := hid (show L5 ++ partsB (peT (m.pe.take (k + 1))) = LL ++ [kvB pPe (mkB (eOf (atxt x)))] by rw [HTK.out, hLL, List.append_assoc])
                        rw [← hLL] at HF hLl
                        obtain ⟨E, hE⟩ : ∃ E, E = (⟨(eOf (atxt x)).toArray⟩ : ByteArray) := ⟨_, rfl⟩
                        have HEQ := hid (kv_two ⟨#[120, 46, 112, 101, 61]⟩ pPe (eOf (atxt x)) E rfl hE)
                        rw [← hE] at HES hesz
                        have hu : (⟨#[120, 46, 112, 101, 61]⟩ : ByteArray).size = 5 := rfl
                        have huE : (⟨#[120, 46, 112, 101, 61]⟩ ++ E : ByteArray).size ≤ 700 := by rw [ByteArray.size_append, hu]; omega
                        clear hc1 hF hx hes hLL HTK hok hal hE
                        go_wp2_with fail
                        refine (HTX.out _).mono ?_
                        rintro e w7 ⟨rfl, n7⟩
                        have F7 := hid (HF.out.next (((Mod.refl _ _).alloc _).trans n7))
                        clear n7 g0 g1 g2
                        go_wp2_with fail
                        refine (HES.out _).mono ?_
                        rintro e w8 ⟨rfl, n8⟩
                        have F8 := hid (F7.out.next n8)
                        clear n8
                        go_wp2_with (first | (at_builtin; refine wpList_append_own_at _ rfl _ _ 23 rfl (w.heap.size + 1) 9 i0 _ 1 16 Tryz.underlying23 hi hz0 hz1 hz2 rfl (by decide) v (LL).length ((LL).map Value.string) rfl ?zow ⟨_, 0, none⟩ 1 1 [.string (⟨#[120, 46, 112, 101, 61]⟩ ++ E)] rfl rfl ?zhn ?zh1 ?zh63 ?zhby ?zhba ?_) | fail)
                        case zow => exact (F8.out.own.new ((Mod.refl _ _).alloc _)).row
                        try case zhn => exact cell_one_new _ _ _
                        try case zh1 => first | rfl | (intro u hu; simp at hu; subst hu; rfl)
                        case zh63 => first | (unfold maxLen; omega) | (unfold maxLen; simp)
                        case zhby => first | omega | simp
                        case zhba => have := F8.out.bA.lt; simp; omega
                        intro o9 w9 r9 g9 _ _
                        have F9 := hid (F8.out.push HEQ.out (by unfold maxLen; omega) r9 g9)
                        clear r9 g9
                        go_wp2
                        exact ⟨⟨k + 1, _, by simp, rfl, by omega, F9.out.same HNX.out.symm⟩, by simp [intOf]; omega⟩
                      · obtain rfl : k = m.pe.length := by omega
                        rw [List.take_length] at HF
                        have HE := hid HFL.out.f
                        clear hF hlt hLl
                        go_wp2
                        go_meet
                        exact ⟨_, rfl, HF.out.same HE.out.symm⟩
                  case rest =>
                    rename World => W9
                    obtain ⟨v9, rfl, hc⟩ := hcut
                    have F9 := hid hc
                    clear hc F8
                    go_upto_region 26 with fail
                    have f0 := F9.out.bA.cellv 0 rfl; have f1 := F9.out.bA.cellv 1 rfl; have f2 := F9.out.bA.cellv 2 rfl; have f3 := F9.out.bA.cellv 3 rfl; have f4 := F9.out.bA.cellv 4 rfl; have f5 := F9.out.bA.cellv 5 rfl; have f6 := F9.out.bA.cellv 6 rfl; have fl := F9.out.bA.lt
                    obtain ⟨S, hS, hfs, hms⟩ := onB_field HOKV.out.on
                    have HFR := hid (fun W (n : New w W) => rFrom_any 40 m.on (.slice oa m.on.length oc) W (HMA.out W n).on.runs (by omega))
                    rw [hfs] at HFR
                    have HBT := hid (fun W => rText_any 40 (mkB S) W hS (by omega))
                    rw [show (mkB S).data.toList = S from rfl, ← hms] at HBT
                    have htl : (mkB (txtR m.on)).size ≤ 2000 := by
                      have := txt_len40 hS
                      rw [← hms] at this
                      rw [mkB_sz]
                      omega
                    have HGE := hid (show m.on = [] → partsB (mgParts m) = L6 from fun q => by rw [HFL.out.g, q]; unfold onT; rw [if_pos rfl]; unfold partsB; simp)
                    have HGN := hid (show m.on ≠ [] → partsB (mgParts m) = L6 ++ [kvB pSo (mkB (txtR m.on))] from fun q => by rw [HFL.out.g]; unfold onT; rw [if_neg q, kvB_key]; rfl)
                    have HTQ := hid (fun T (hT : T = mkB (txtR m.on)) => kv_two ⟨#[115, 111, 61]⟩ pSo (txtR m.on) T rfl hT)
                    obtain ⟨T, hT⟩ : ∃ T, T = mkB (txtR m.on) := ⟨_, rfl⟩
                    have HSO := hid (HTQ.out T hT)
                    rw [← hT] at HBT htl HGN HSO
                    have hs3 : (⟨#[115, 111, 61]⟩ : ByteArray).size = 3 := rfl
                    have hsT : (⟨#[115, 111, 61]⟩ ++ T : ByteArray).size ≤ 2100 := by rw [ByteArray.size_append, hs3]; omega
                    clear hfs hS hms hT HTQ
                    obtain ⟨B, hB⟩ : ∃ B, B = decide (m.on ≠ []) := ⟨_, rfl⟩
                    go_cut [103] (fun s wx => s = .bool B ∧ W9 = wx)
                    case first =>
                      by_cases hn : m.on = []
                      · have HB := hid (show B = false by rw [hB, decide_eq_false (fun q => q hn)])
                        have hi0 : ¬ (0 : Int) < (m.on.length : Int) := by rw [hn]; simp
                        clear hn hB
                        go_wp2
                        go_meet
                        exact ⟨by rw [HB.out]; congr 1; exact decide_eq_false (by omega), rfl⟩
                      · have HB := hid (show B = true by rw [hB, decide_eq_true hn])
                        have hi0 : (0 : Int) < (m.on.length : Int) := by
                          have : m.on.length ≠ 0 := fun q => hn (List.eq_nil_of_length_eq_zero q)
                          omega
                        clear hn hB
                        go_wp2
                        go_meet
                        exact ⟨by rw [HB.out]; congr 1; exact decide_eq_true (by omega), rfl⟩
                    case rest =>
                      obtain ⟨rfl, rfl⟩ := hcut
                      go_upto_if 103 with fail
                      go_cut [4] (fun s4 wx => ∃ v, v = s4 ∧ RfS w wx m ⟨ta, tc, pa, pc, sa, sc, oa, oc⟩ v (partsB (mgParts m)))
                      case first =>
                        cases B with
                        | false =>
                          have HE := hid (HGE.out (Decidable.not_not.1 (of_decide_eq_false hB.symm)))
                          clear hB
                          go_wp2
                          go_meet
                          exact ⟨_, rfl, F9.out.same HE.out.symm⟩
                        | true =>
                          have HE := hid (HGN.out (of_decide_eq_true hB.symm))
                          clear hB
                          go_wp2_with fail
                          refine (HFR.out _ F9.out.new).mono ?_
                          rintro e w7 ⟨rfl, n7⟩
                          simp only [frE]
                          have F7 := hid (F9.out.next n7)
                          clear n7 F9
                          clear f0 f1 f2 f3 f4 f5 f6 fl
                          go_wp2_with fail
                          refine (HBT.out _).mono ?_
                          rintro e w8 ⟨rfl, n8⟩
                          have F8 := hid (F7.out.next n8)
                          clear n8 F7
                          go_wp2_with (first | (at_builtin; refine wpList_append_own_at _ rfl _ _ 23 rfl (w.heap.size + 1) 9 i0 _ 1 16 Tryz.underlying23 hi hz0 hz1 hz2 rfl (by decide) v9 (L6).length ((L6).map Value.string) rfl ?zow ⟨_, 0, none⟩ 1 1 [.string (⟨#[115, 111, 61]⟩ ++ T)] rfl rfl ?zhn ?zh1 ?zh63 ?zhby ?zhba ?_) | fail)
                          case zow => exact (F8.out.own.new ((Mod.refl _ _).alloc _)).row
                          try case zhn => exact cell_one_new _ _ _
                          try case zh1 => first | rfl | (intro u hu; simp at hu; subst hu; rfl)
                          case zh63 => first | (unfold maxLen; omega) | (unfold maxLen; simp)
                          case zhby => first | omega | simp
                          case zhba => have := F8.out.bA.lt; simp; omega
                          intro o9 w9 r9 g9 _ _
                          have F9 := hid (F8.out.push HSO.out (by unfold maxLen; omega) r9 g9)
                          clear r9 g9
                          go_wp2
                          go_meet
                          exact ⟨_, rfl, F9.out.same HE.out.symm⟩
                      case rest =>
                        rename World => WA
                        obtain ⟨vA, rfl, hc⟩ := hcut
                        have FA := hid hc
                        clear hc F9
                        clear f0 f1 f2 f3 f4 f5 f6 fl
                        have hpl : (partsB (mgParts m)).length ≤ 44 := by
                          rw [HFL.out.g, List.length_append]
                          have : (partsB (onT m.on)).length ≤ 1 := by
                            unfold onT partsB
                            split <;> simp
                          omega
                        obtain ⟨la, lc, rfl, hst⟩ := FA.out.own.at'
                        have hwt := parts_wt HOKV.out
                        obtain ⟨PL, hPL⟩ : ∃ PL, PL = mgParts m := ⟨_, rfl⟩
                        have HR := hid (show mkB (kHead ++ Lib.join PL [38]) = mkB (magT m) by rw [hPL]; rfl)
                        rw [← hPL] at hpl hst hwt FA ⊢
                        have hbl : (partsB PL).length = PL.length := by unfold partsB; rw [List.length_map]
                        have HGB := hid (fun (k : Nat) (hk : k < PL.length) => show (partsB PL)[k]'(by omega) = mkB PL[k] by unfold partsB; rw [List.getElem_map])
                        have HLE := hid (fun (k : Nat) => show (kHead ++ Lib.join (PL.take k) [38]).length ≤ 24008 by
                          have h1 := join_wt 38 (PL.take k)
                          have h2 := wtL_take PL k
                          rw [List.length_append, show kHead.length = 8 from rfl]
                          omega)
                        have HLX := hid (fun (k : Nat) (hk : k < PL.length) => show PL[k].length ≤ 24000 by have := mem_wt PL _ (List.getElem_mem hk); omega)
                        have HST := hid hst
                        obtain ⟨NP, hNP⟩ : ∃ NP, NP = (partsB PL).length := ⟨_, rfl⟩
                        rw [← hNP]
                        have HNP := hid (hNP.trans hbl)
                        have hNP40 : NP ≤ 44 := by omega
                        have HCE := hid (fun (k : Nat) (hk : k < PL.length) => show ∃ b o, la = some ⟨b, o, none⟩ ∧ WA.cell? ⟨b, o + k, none⟩ = some (.string (mkB PL[k])) by
                          obtain ⟨b, o, e, -, hc⟩ := HST.out.get (by omega)
                          refine ⟨b, o, e, ?_⟩
                          rw [← HGB.out k (by omega)]
                          exact hc k (by omega))
                        clear hpl hst hwt hPL hbl hNP HGB HST HEN HXO HXN HUO HUN HUE HFR HBT HGE HGN HSO HFL
                        go_wp2_with fail
                        go_loopw [122, 17] (fun i o wr => ∃ (k : Nat) (b : ByteArray), i = .int .i64 k ∧ o = .string b ∧ k ≤ NP ∧ b = mkB (kHead ++ Lib.join (PL.take k) [38]) ∧ wr = WA) (fun i _ _ => NP - (intOf i).toNat)
                        case atStart => exact ⟨0, _, rfl, rfl, by omega, by rw [List.take_zero]; rfl, rfl⟩
                        case round =>
                          obtain ⟨k, b, rfl, rfl, hk, hO, rfl⟩ := hrel
                          have hbs : b.size ≤ 24008 := by rw [hO, mkB_sz]; exact HLE.out k
                          have HO := hid hO
                          clear hO
                          by_cases hlt : k < NP
                          · have hltI : (k : Int) < (NP : Int) := by omega
                            obtain ⟨b1, o1, rfl, g0⟩ := HCE.out k (by have := HNP.out; omega)
                            have hkp : k < PL.length := by have := HNP.out; omega
                            have hxs := HLX.out k hkp
                            have HJ0 := hid (fun (h0 : k = 0) => show Lib.join (PL.take (k + 1)) [38] = Lib.join (PL.take k) [38] ++ PL[k]'hkp by subst h0; exact join_take0 hkp)
                            have HJ1 := hid (fun (h0 : k ≠ 0) => join_take (c := 38) (L := PL) (k := k) hkp h0)
                            obtain ⟨x, hx⟩ : ∃ x, x = PL[k]'hkp := ⟨_, rfl⟩
                            rw [← hx] at g0 hxs HJ0 HJ1
                            have hms : (mkB x).size ≤ 24000 := by rw [mkB_sz]; exact hxs
                            have HXM := hid (show True from trivial)
                            by_cases h0 : k = 0
                            · have hk0 : ¬ (0 : Int) < (k : Int) := by omega
                              have HN := hid (show b ++ mkB x = mkB (kHead ++ Lib.join (PL.take (k + 1)) [38]) by rw [HO.out, mkB_app, HJ0.out h0, List.append_assoc])
                              obtain ⟨Y, hY⟩ : ∃ Y, Y = mkB x := ⟨_, rfl⟩
                              rw [← hY] at g0 hms HN
                              clear h0 hx hY hxs
                              go_wp2
                              exact ⟨⟨k + 1, _, by simp, rfl, by omega, HN.out, trivial⟩, by simp [intOf]; omega⟩
                            · have hk0 : (0 : Int) < (k : Int) := by omega
                              have HN := hid (show b ++ ⟨#[38]⟩ ++ mkB x = mkB (kHead ++ Lib.join (PL.take (k + 1)) [38]) by
                                rw [HO.out, show (⟨#[38]⟩ : ByteArray) = mkB [38] from rfl, mkB_app, mkB_app, HJ1.out h0]
                                simp)
                              obtain ⟨Y, hY⟩ : ∃ Y, Y = mkB x := ⟨_, rfl⟩
                              rw [← hY] at g0 hms HN
                              have h38 : (⟨#[38]⟩ : ByteArray).size = 1 := rfl
                              have hb38 : (b ++ ⟨#[38]⟩ : ByteArray).size = b.size + 1 := by rw [ByteArray.size_append]; rfl
                              clear h0 hx hY hxs
                              go_wp2
                              exact ⟨⟨k + 1, _, by simp, rfl, by omega, HN.out, trivial⟩, by simp [intOf]; omega⟩
                          · obtain rfl : k = NP := by omega
                            have HB := hid (show b = mkB (magT m) by rw [HO.out, List.take_of_length_le (by have := HNP.out; omega), HR.out])
                            clear hlt
                            go_wp2
                            go_ret2
                            exact ⟨by rw [HB.out]; rfl, FA.out.new⟩
theorem rFormat_any (m : MgV) (p : MgP) (w : World) (h : MagAt w m p) :
    Calls Tryz.prog 18 #[magVal m p] w fun e w' => e = .returned (.tuple #[.string (fmtX m), .int .i64 (fmtE m)]) ∧ New w w' := by
  cases hva : validMg m with
  | true =>
    unfold fmtX fmtE
    rw [if_pos hva, if_pos hva]
    exact rFormat_ok m p w h (validMg_iff.1 hva)
  | false =>
    unfold fmtX fmtE
    rw [if_neg (by rw [hva]; decide), if_neg (by rw [hva]; decide)]
    have HVA := hid (fun W (n : New w W) => rValid_any m p W (h.new n))
    rw [hva] at HVA
    obtain ⟨ta, tc, pa, pc, sa, sc, oa, oc⟩ := p
    simp only [magVal, magRow] at HVA ⊢
    clear h hva
    go_enter Tryz.func18, Tryz.ntmps18
    go_wp2_with fail
    refine (HVA.out _ ((Mod.refl _ w).alloc _)).mono ?_
    rintro e w2 ⟨rfl, n2⟩
    have N2 := hid (((Mod.refl (fun _ => False) w).alloc _).trans n2)
    clear n2
    go_wp2
    go_ret2
    exact ⟨rfl, N2.out⟩
end Go.Proofs.YtbgmkplpolgebaaGreatDoor
