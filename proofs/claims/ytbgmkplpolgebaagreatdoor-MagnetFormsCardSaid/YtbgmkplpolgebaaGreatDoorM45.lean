/-
  Several texts in one, in their build order. The walk of Format (package magnet). Conditions: the magnet lies as told; the library's variables are as laid.
-/
import Derived.Test.YtbgmkplpolgebaaGreatDoorM44
namespace Go.Proofs.YtbgmkplpolgebaaGreatDoor
set_option linter.unusedSimpArgs false
set_option linter.unusedVariables false
open Go.RowKit Go.Shelf

theorem FmS.cells {w0 W : World} {m : MgV} {p : MgP} {C : Nat} {L : List ByteArray} (h : FmS w0 W m p C L) : ∃ a c, W.cell? ⟨C, 0, none⟩ = some (.slice a L.length c) ∧ StrsAt W a c L := by
  obtain ⟨v, h1, h2⟩ := h.cell
  obtain ⟨a, c, rfl, h3⟩ := h2.at'
  exact ⟨a, c, h1.cellv 0 rfl, h3⟩
theorem urn_mk (u : ByteArray) (l : List UInt8) : u ++ ⟨l.toArray⟩ = mkB (u.data.toList ++ l) := by
  apply bytes_ext
  simp [mkB]
/-- What the parts add. -/
structure FmL (m : MgV) (L1 L2 L3 L4 L5 L6 : List ByteArray) : Prop where
  a0 : m.old.size = 0 → L1 = []
  a1 : m.old.size ≠ 0 → L1 = [] ++ [kvB pXt (mkB (uOld.data.toList ++ hexOf m.old.data.toList))]
  b0 : m.new.size = 0 → L2 = L1
  b1 : m.new.size ≠ 0 → L2 = L1 ++ [kvB pXt (mkB (uNew.data.toList ++ hexOf m.new.data.toList))]
  c0 : m.name.size = 0 → L3 = L2
  c1 : m.name.size ≠ 0 → L3 = L2 ++ [kvB pDn (mkB (eOf m.name.data.toList))]
  d : L4 = L3 ++ partsB (listT pTr m.tr)
  e : L5 = L4 ++ partsB (listT pWs m.ws)
  f : L6 = L5 ++ partsB (peT m.pe)
  g : partsB (mgParts m) = L6 ++ partsB (onT m.on)
  l1 : L1.length ≤ 1
  l2 : L2.length ≤ 2
  l3 : L3.length ≤ 3
theorem optB_len (x k : ByteArray) (v : List UInt8) : (partsB (optT x k v)).length ≤ 1 := by
  unfold optT partsB
  split <;> simp
theorem fmL_any (m : MgV) : ∃ L1 L2 L3 L4 L5 L6, FmL m L1 L2 L3 L4 L5 L6 := by
  refine ⟨partsB (optT m.old pXt (uOld.data.toList ++ hexOf m.old.data.toList)), _ ++ partsB (optT m.new pXt (uNew.data.toList ++ hexOf m.new.data.toList)), _ ++ partsB (namT m), _ ++ partsB (listT pTr m.tr), _ ++ partsB (listT pWs m.ws), _ ++ partsB (peT m.pe), ⟨fun h => partsB_opt0 h, fun h => by rw [partsB_opt1 h]; rfl, fun h => by rw [partsB_opt0 h, List.append_nil], fun h => by rw [partsB_opt1 h], fun h => by unfold namT; rw [partsB_opt0 h, List.append_nil], fun h => by unfold namT; rw [partsB_opt1 h], rfl, rfl, rfl, ?_, optB_len _ _ _, ?_, ?_⟩⟩
  · unfold mgParts topsT
    simp only [partsB_app]
  · rw [List.length_append]
    have := optB_len m.old pXt (uOld.data.toList ++ hexOf m.old.data.toList)
    have := optB_len m.new pXt (uNew.data.toList ++ hexOf m.new.data.toList)
    omega
  · rw [List.length_append, List.length_append]
    have := optB_len m.old pXt (uOld.data.toList ++ hexOf m.old.data.toList)
    have := optB_len m.new pXt (uNew.data.toList ++ hexOf m.new.data.toList)
    have := optB_len m.name pDn (eOf m.name.data.toList)
    unfold namT
    omega
theorem mkB_sz (l : List UInt8) : (mkB l).size = l.length := size_list l
structure FmZ (m : MgV) : Prop where
  old : m.old.size ≤ 32
  new : m.new.size ≤ 32
  name : m.name.size ≤ 100
  tr : ∀ s ∈ m.tr, s.size ≤ 200
  ws : ∀ s ∈ m.ws, s.size ≤ 200
  trl : m.tr.length ≤ 10
  wsl : m.ws.length ≤ 10
  pel : m.pe.length ≤ 20
  pe : ∀ x ∈ m.pe, adrOk x = true
theorem text_le {l : List ByteArray} (h : l.all textM = true) : ∀ s ∈ l, s.size ≤ 200 := by
  intro s hs
  have q := List.all_eq_true.1 h s hs
  unfold textM at q
  rw [Bool.and_eq_true, decide_eq_true_iff, decide_eq_true_iff] at q
  exact q.2
theorem fmZ_of {m : MgV} (h : VOk m) : FmZ m := ⟨by have := h.old; omega, by have := h.new; omega, h.name, text_le h.tr, text_le h.ws, h.trl, h.wsl, h.pel, fun x hx => List.all_eq_true.1 h.pe x hx⟩
set_option maxRecDepth 100000 in
set_option maxHeartbeats 16000000 in
theorem mFormat_ok (m : MgV) (p : MgP) (w : World) (h : MagAt w m p) (hv : VarP w) (ok : VOk m) :
    Calls Tryz.prog 17 #[magVal m p] w fun e w' => e = .returned (.tuple #[.string (mkB (magT m)), .int .i64 0]) ∧ New w w' := by
  have HVA := hid (fun W (n : New w W) => mValid_any m p W (h.new n))
  rw [validMg_iff.2 ok] at HVA
  have HV := hid (fun W (n : New w W) => hv.new n)
  have HMA := hid (fun W (n : New w W) => h.new n)
  obtain ⟨ta, tc, pa, pc, sa, sc, oa, oc⟩ := p
  have HTA := hid (fun W (n : New w W) => h.tr.new n)
  have HSA := hid (fun W (n : New w W) => h.ws.new n)
  have HPA := hid (fun W (n : New w W) => h.pe.new n)
  simp only [magVal, magRow] at HVA ⊢
  have HSZ := hid (fmZ_of ok)
  obtain ⟨L1, L2, L3, L4, L5, L6, hFL⟩ := fmL_any m
  have HFL := hid hFL
  have hl0 := hFL.l1; have hl1 := hFL.l2; have hl2 := hFL.l3
  have hl3 : L4.length ≤ 13 := by
    have := HSZ.out.trl
    rw [hFL.d, List.length_append, partsB_listlen]
    omega
  have hl4 : L5.length ≤ 23 := by
    have := HSZ.out.wsl
    rw [hFL.e, List.length_append, partsB_listlen]
    omega
  have hl5 : L6.length ≤ 43 := by
    have := HSZ.out.pel
    rw [hFL.f, List.length_append, partsB_pelen]
    omega
  have HLN := hid (And.intro HSZ.out.trl (And.intro HSZ.out.wsl HSZ.out.pel))
  have HXO := hid (fun W => hex_any m.old W (by have := HSZ.out.old; omega))
  have HXN := hid (fun W => hex_any m.new W (by have := HSZ.out.new; omega))
  have HEN := hid (fun W => escape_any m.name W (by have := HSZ.out.name; omega))
  have hxo : (⟨(hexOf m.old.data.toList).toArray⟩ : ByteArray).size ≤ 64 := by rw [size_list, hexOf_len, size_data]; have := HSZ.out.old; omega
  have hxn : (⟨(hexOf m.new.data.toList).toArray⟩ : ByteArray).size ≤ 64 := by rw [size_list, hexOf_len, size_data]; have := HSZ.out.new; omega
  have hen : (⟨(eOf m.name.data.toList).toArray⟩ : ByteArray).size ≤ 300 := by
    have := eOf_len m.name.data.toList
    rw [size_data] at this
    rw [size_list]
    have := HSZ.out.name
    omega
  have HUO := hid (urn_mk uOld (hexOf m.old.data.toList))
  have HUN := hid (urn_mk uNew (hexOf m.new.data.toList))
  obtain ⟨XO, hXO⟩ : ∃ X, X = (⟨(hexOf m.old.data.toList).toArray⟩ : ByteArray) := ⟨_, rfl⟩
  obtain ⟨XN, hXN⟩ : ∃ X, X = (⟨(hexOf m.new.data.toList).toArray⟩ : ByteArray) := ⟨_, rfl⟩
  rw [← hXO] at HXO hxo HUO
  rw [← hXN] at HXN hxn HUN
  have hu8 : (⟨#[117, 114, 110, 58, 99, 118, 111, 58]⟩ : ByteArray).size = 8 := rfl
  have hv8 : (⟨#[117, 114, 110, 58, 99, 118, 110, 58]⟩ : ByteArray).size = 8 := rfl
  have huo : (⟨#[117, 114, 110, 58, 99, 118, 111, 58]⟩ ++ XO : ByteArray).size ≤ 100 := by rw [ByteArray.size_append, hu8]; omega
  have huv : (⟨#[117, 114, 110, 58, 99, 118, 110, 58]⟩ ++ XN : ByteArray).size ≤ 100 := by rw [ByteArray.size_append, hv8]; omega
  clear hXO hXN
  have HOKV := hid ok
  have NX : Hid (New w (w.alloc (.cells #[.string m.old, .string m.new, .string m.name, .slice ta m.tr.length tc, .slice pa m.pe.length pc, .slice sa m.ws.length sc, .slice oa m.on.length oc] 27))) := hid ((Mod.refl _ w).alloc _)
  have BX : Hid (Blk (w.alloc (.cells #[.string m.old, .string m.new, .string m.name, .slice ta m.tr.length tc, .slice pa m.pe.length pc, .slice sa m.ws.length sc, .slice oa m.on.length oc] 27)) w.heap.size #[.string m.old, .string m.new, .string m.name, .slice ta m.tr.length tc, .slice pa m.pe.length pc, .slice sa m.ws.length sc, .slice oa m.on.length oc] 27) := hid (Blk.new w _ _)
  clear h hv ok hFL
  go_enter Tryz.func17, Tryz.ntmps17
  go_wp2_with fail
  refine (HVA.out _ NX.out).mono ?_
  rintro e w2 ⟨rfl, n2⟩
  have N2 := hid (NX.out.trans n2)
  have A2 := hid (New.blk n2 BX.out)
  clear n2 NX BX HVA
  go_upto_region 5 with fail
  have F3x : FmS w (w2.alloc (.cells #[.slice none 0 0] 23)) m ⟨ta, tc, pa, pc, sa, sc, oa, oc⟩ w2.heap.size [] :=
    ⟨New.blk ((Mod.refl _ _).alloc _) A2.out, ⟨_, Blk.new w2 _ _, OwnS.nil _ _⟩, A2.out.lt, N2.out.alloc _⟩
  obtain ⟨W3, hW3⟩ : ∃ W3, W3 = w2.alloc (.cells #[.slice none 0 0] 23) := ⟨_, rfl⟩
  obtain ⟨C, hC⟩ : ∃ C, C = w2.heap.size := ⟨_, rfl⟩
  rw [← hW3, ← hC] at F3x
  rw [← hW3, ← hC]
  have F3 := hid F3x
  clear F3x hW3 hC A2 N2
  obtain ⟨B, hB⟩ : ∃ B, B = decide (¬ m.old.size = 0) := ⟨_, rfl⟩
  skip
  have f0 := F3.out.bA.cellv 0 rfl; have f1 := F3.out.bA.cellv 1 rfl; have f2 := F3.out.bA.cellv 2 rfl; have f3 := F3.out.bA.cellv 3 rfl; have f4 := F3.out.bA.cellv 4 rfl; have f5 := F3.out.bA.cellv 5 rfl; have f6 := F3.out.bA.cellv 6 rfl; have fl := F3.out.bA.lt
  go_cut [24] (fun s wx => s = .bool B ∧ W3 = wx)
  case first =>
    by_cases hn : m.old.size = 0
    · obtain ⟨x1, x2, x3, -⟩ := strE hn
      have HB := hid (show B = false by rw [hB, decide_eq_false (fun q => q hn)])
      clear hn hB
      go_wp2
      go_meet
      exact ⟨by rw [HB.out] <;> rfl, rfl⟩
    · obtain ⟨x1, x2, x3, -⟩ := strN hn
      have HB := hid (show B = true by rw [hB, decide_eq_true hn])
      clear hn hB
      go_wp2
      go_meet
      exact ⟨by rw [HB.out] <;> rfl, rfl⟩
  case rest =>
    obtain ⟨rfl, rfl⟩ := hcut
    go_upto_if 24 with fail
    go_cut [] (fun wx => FmS w wx m ⟨ta, tc, pa, pc, sa, sc, oa, oc⟩ C L1)
    case first =>
      cases B with
      | false =>
        have HE := hid (HFL.out.a0 (Decidable.not_not.1 (of_decide_eq_false hB.symm)))
        clear hB
        go_wp2
        go_meet
        rw [HE.out]
        exact F3.out
      | true =>
        have HE := hid (HFL.out.a1 (of_decide_eq_true hB.symm))
        clear hB
        go_wp2_with fail
        refine (HXO.out _).mono ?_
        rintro e w8 ⟨rfl, n8⟩
        have F8 := hid (F3.out.next n8)
        clear n8
        clear f0 f1 f2 f3 f4 f5 f6 fl
        go_wp2_with fail
        go_at_call 51
        refine (add_any _ _ C w _ m _ _ F8.out ?zl ?zk ?zx).mono ?_
        case zl => first | omega | simp
        case zk => decide
        case zx => first | omega | (rw [size_list]; omega)
        rintro e w9 ⟨rfl, h9⟩
        have F9 := hid h9
        clear h9
        go_wp2
        go_meet
        rw [HE.out, ← HUO.out]
        exact F9.out
    case rest =>
      rename World => W4
      have F4 := hid hcut
      clear hcut F3
      clear f0 f1 f2 f3 f4 f5 f6 fl
      obtain ⟨B, hB⟩ : ∃ B, B = decide (¬ m.new.size = 0) := ⟨_, rfl⟩
      go_upto_region 7 with fail
      have f0 := F4.out.bA.cellv 0 rfl; have f1 := F4.out.bA.cellv 1 rfl; have f2 := F4.out.bA.cellv 2 rfl; have f3 := F4.out.bA.cellv 3 rfl; have f4 := F4.out.bA.cellv 4 rfl; have f5 := F4.out.bA.cellv 5 rfl; have f6 := F4.out.bA.cellv 6 rfl; have fl := F4.out.bA.lt
      go_cut [33] (fun s wx => s = .bool B ∧ W4 = wx)
      case first =>
        by_cases hn : m.new.size = 0
        · obtain ⟨x1, x2, x3, -⟩ := strE hn
          have HB := hid (show B = false by rw [hB, decide_eq_false (fun q => q hn)])
          clear hn hB
          go_wp2
          go_meet
          exact ⟨by rw [HB.out] <;> rfl, rfl⟩
        · obtain ⟨x1, x2, x3, -⟩ := strN hn
          have HB := hid (show B = true by rw [hB, decide_eq_true hn])
          clear hn hB
          go_wp2
          go_meet
          exact ⟨by rw [HB.out] <;> rfl, rfl⟩
      case rest =>
        obtain ⟨rfl, rfl⟩ := hcut
        go_upto_if 33 with fail
        go_cut [] (fun wx => FmS w wx m ⟨ta, tc, pa, pc, sa, sc, oa, oc⟩ C L2)
        case first =>
          cases B with
          | false =>
            have HE := hid (HFL.out.b0 (Decidable.not_not.1 (of_decide_eq_false hB.symm)))
            clear hB
            go_wp2
            go_meet
            rw [HE.out]
            exact F4.out
          | true =>
            have HE := hid (HFL.out.b1 (of_decide_eq_true hB.symm))
            clear hB
            go_wp2_with fail
            refine (HXN.out _).mono ?_
            rintro e w8 ⟨rfl, n8⟩
            have F8 := hid (F4.out.next n8)
            clear n8
            clear f0 f1 f2 f3 f4 f5 f6 fl
            go_wp2_with fail
            go_at_call 51
            refine (add_any _ _ C w _ m _ _ F8.out ?zl ?zk ?zx).mono ?_
            case zl => first | omega | simp
            case zk => decide
            case zx => first | omega | (rw [size_list]; omega)
            rintro e w9 ⟨rfl, h9⟩
            have F9 := hid h9
            clear h9
            go_wp2
            go_meet
            rw [HE.out, ← HUN.out]
            exact F9.out
        case rest =>
          rename World => W5
          have F5 := hid hcut
          clear hcut F4
          clear f0 f1 f2 f3 f4 f5 f6 fl
          obtain ⟨B, hB⟩ : ∃ B, B = decide (¬ m.name.size = 0) := ⟨_, rfl⟩
          go_upto_region 9 with fail
          have f0 := F5.out.bA.cellv 0 rfl; have f1 := F5.out.bA.cellv 1 rfl; have f2 := F5.out.bA.cellv 2 rfl; have f3 := F5.out.bA.cellv 3 rfl; have f4 := F5.out.bA.cellv 4 rfl; have f5 := F5.out.bA.cellv 5 rfl; have f6 := F5.out.bA.cellv 6 rfl; have fl := F5.out.bA.lt
          go_cut [42] (fun s wx => s = .bool B ∧ W5 = wx)
          case first =>
            by_cases hn : m.name.size = 0
            · obtain ⟨x1, x2, x3, -⟩ := strE hn
              have HB := hid (show B = false by rw [hB, decide_eq_false (fun q => q hn)])
              clear hn hB
              go_wp2
              go_meet
              exact ⟨by rw [HB.out] <;> rfl, rfl⟩
            · obtain ⟨x1, x2, x3, -⟩ := strN hn
              have HB := hid (show B = true by rw [hB, decide_eq_true hn])
              clear hn hB
              go_wp2
              go_meet
              exact ⟨by rw [HB.out] <;> rfl, rfl⟩
          case rest =>
            obtain ⟨rfl, rfl⟩ := hcut
            go_upto_if 42 with fail
            go_cut [] (fun wx => FmS w wx m ⟨ta, tc, pa, pc, sa, sc, oa, oc⟩ C L3)
            case first =>
              cases B with
              | false =>
                have HE := hid (HFL.out.c0 (Decidable.not_not.1 (of_decide_eq_false hB.symm)))
                clear hB
                go_wp2
                go_meet
                rw [HE.out]
                exact F5.out
              | true =>
                have HE := hid (HFL.out.c1 (of_decide_eq_true hB.symm))
                clear hB
                go_wp2_with fail
                refine (HEN.out _).mono ?_
                rintro e w8 ⟨rfl, n8⟩
                have F8 := hid (F5.out.next n8)
                clear n8
                clear f0 f1 f2 f3 f4 f5 f6 fl
                go_wp2_with fail
                go_at_call 51
                refine (add_any _ _ C w _ m _ _ F8.out ?zl ?zk ?zx).mono ?_
                case zl => first | omega | simp
                case zk => decide
                case zx => first | omega | (rw [size_list]; omega)
                rintro e w9 ⟨rfl, h9⟩
                have F9 := hid h9
                clear h9
                go_wp2
                go_meet
                rw [HE.out]
                exact F9.out
            case rest =>
              rename World => W6
              have F6 := hid hcut
              clear hcut F5
              clear f0 f1 f2 f3 f4 f5 f6 fl
              have f0 := F6.out.bA.cellv 0 rfl; have f1 := F6.out.bA.cellv 1 rfl; have f2 := F6.out.bA.cellv 2 rfl; have f3 := F6.out.bA.cellv 3 rfl; have f4 := F6.out.bA.cellv 4 rfl; have f5 := F6.out.bA.cellv 5 rfl; have f6 := F6.out.bA.cellv 6 rfl; have fl := F6.out.bA.lt
              go_upto_block 0 with fail
              clear f0 f1 f2 f3 f4 f5 f6 fl
              go_cut [] (fun wx => FmS w wx m ⟨ta, tc, pa, pc, sa, sc, oa, oc⟩ C L4)
              case first =>
                go_wp2_with fail
                go_loopw [51] (fun i wr => ∃ k : Nat, i = .int .i64 k ∧ k ≤ m.tr.length ∧ FmS w wr m ⟨ta, tc, pa, pc, sa, sc, oa, oc⟩ C (L3 ++ partsB (listT pTr (m.tr.take k)))) (fun i _ => m.tr.length - (intOf i).toNat)
                case atStart => exact ⟨0, rfl, by omega, by rw [List.take_zero, show partsB (listT pTr []) = [] from rfl, List.append_nil]; exact F6.out⟩
                case round =>
                  obtain ⟨k, rfl, hk, hF⟩ := hrel
                  have HF := hid hF
                  have hlc := HLN.out.1
                  have hLl : (L3 ++ partsB (listT pTr (m.tr.take k))).length ≤ 100 := by
                    have := HLN.out
                    rw [List.length_append, partsB_listlen, List.length_take]
                    omega
                  by_cases hlt : k < m.tr.length
                  · have hltI : (k : Int) < (m.tr.length : Int) := by omega
                    obtain ⟨b1, o1, rfl, -, hc1⟩ := StrsAt.get (HTA.out _ hF.new) (by omega)
                    have g0 := hc1 k hlt
                    have HES := hid (fun W => escape_any m.tr[k] W (by have := HSZ.out.tr _ (List.getElem_mem hlt); omega))
                    have hes := eOf_len m.tr[k].data.toList
                    have hxs := HSZ.out.tr _ (List.getElem_mem hlt)
                    rw [size_data] at hes
                    have HTK := hid (partsB_take (k := pTr) hlt)
                    obtain ⟨x, hx⟩ : ∃ x, x = m.tr[k] := ⟨_, rfl⟩
                    rw [← hx] at g0 HES hes hxs HTK
                    have hesz : (⟨(eOf x.data.toList).toArray⟩ : ByteArray).size ≤ 600 := by rw [size_list]; omega
                    obtain ⟨LL, hLL⟩ : ∃ LL, LL = L3 ++ partsB (listT pTr (m.tr.take k)) := ⟨_, rfl⟩
                    have HNX := hid (show L3 ++ partsB (listT pTr (m.tr.take (k + 1))) = LL ++ [kvB pTr (mkB (eOf x.data.toList))] by rw [HTK.out, hLL, List.append_assoc])
                    rw [← hLL] at HF hLl
                    clear hc1 hF hx hes hLL HTK
                    go_wp2_with fail
                    refine (HES.out _).mono ?_
                    rintro e w8 ⟨rfl, n8⟩
                    have F8 := hid (HF.out.next n8)
                    clear n8 g0
                    go_wp2_with fail
                    go_at_call 51
                    refine (add_any _ _ C w _ m _ _ F8.out ?zl ?zk ?zx).mono ?_
                    case zl => first | omega | simp
                    case zk => decide
                    case zx => first | omega | (rw [size_list]; omega)
                    rintro e w9 ⟨rfl, h9⟩
                    have F9 := hid h9
                    clear h9
                    go_wp2
                    exact ⟨⟨k + 1, by simp, by omega, by rw [HNX.out]; exact F9.out⟩, by simp [intOf]; omega⟩
                  · obtain rfl : k = m.tr.length := by omega
                    rw [List.take_length] at HF
                    have HE := hid HFL.out.d
                    clear hF hlt hLl
                    go_wp2
                    go_meet
                    rw [HE.out]
                    exact HF.out
              case rest =>
                rename World => W7
                have F7 := hid hcut
                clear hcut F6
                have f0 := F7.out.bA.cellv 0 rfl; have f1 := F7.out.bA.cellv 1 rfl; have f2 := F7.out.bA.cellv 2 rfl; have f3 := F7.out.bA.cellv 3 rfl; have f4 := F7.out.bA.cellv 4 rfl; have f5 := F7.out.bA.cellv 5 rfl; have f6 := F7.out.bA.cellv 6 rfl; have fl := F7.out.bA.lt
                go_upto_block 2 with fail
                clear f0 f1 f2 f3 f4 f5 f6 fl
                go_cut [] (fun wx => FmS w wx m ⟨ta, tc, pa, pc, sa, sc, oa, oc⟩ C L5)
                case first =>
                  go_wp2_with fail
                  go_loopw [63] (fun i wr => ∃ k : Nat, i = .int .i64 k ∧ k ≤ m.ws.length ∧ FmS w wr m ⟨ta, tc, pa, pc, sa, sc, oa, oc⟩ C (L4 ++ partsB (listT pWs (m.ws.take k)))) (fun i _ => m.ws.length - (intOf i).toNat)
                  case atStart => exact ⟨0, rfl, by omega, by rw [List.take_zero, show partsB (listT pWs []) = [] from rfl, List.append_nil]; exact F7.out⟩
                  case round =>
                    obtain ⟨k, rfl, hk, hF⟩ := hrel
                    have HF := hid hF
                    have hlc := HLN.out.2.1
                    have hLl : (L4 ++ partsB (listT pWs (m.ws.take k))).length ≤ 100 := by
                      have := HLN.out
                      rw [List.length_append, partsB_listlen, List.length_take]
                      omega
                    by_cases hlt : k < m.ws.length
                    · have hltI : (k : Int) < (m.ws.length : Int) := by omega
                      obtain ⟨b1, o1, rfl, -, hc1⟩ := StrsAt.get (HSA.out _ hF.new) (by omega)
                      have g0 := hc1 k hlt
                      have HES := hid (fun W => escape_any m.ws[k] W (by have := HSZ.out.ws _ (List.getElem_mem hlt); omega))
                      have hes := eOf_len m.ws[k].data.toList
                      have hxs := HSZ.out.ws _ (List.getElem_mem hlt)
                      rw [size_data] at hes
                      have HTK := hid (partsB_take (k := pWs) hlt)
                      obtain ⟨x, hx⟩ : ∃ x, x = m.ws[k] := ⟨_, rfl⟩
                      rw [← hx] at g0 HES hes hxs HTK
                      have hesz : (⟨(eOf x.data.toList).toArray⟩ : ByteArray).size ≤ 600 := by rw [size_list]; omega
                      obtain ⟨LL, hLL⟩ : ∃ LL, LL = L4 ++ partsB (listT pWs (m.ws.take k)) := ⟨_, rfl⟩
                      have HNX := hid (show L4 ++ partsB (listT pWs (m.ws.take (k + 1))) = LL ++ [kvB pWs (mkB (eOf x.data.toList))] by rw [HTK.out, hLL, List.append_assoc])
                      rw [← hLL] at HF hLl
                      clear hc1 hF hx hes hLL HTK
                      go_wp2_with fail
                      refine (HES.out _).mono ?_
                      rintro e w8 ⟨rfl, n8⟩
                      have F8 := hid (HF.out.next n8)
                      clear n8 g0
                      go_wp2_with fail
                      go_at_call 51
                      refine (add_any _ _ C w _ m _ _ F8.out ?zl ?zk ?zx).mono ?_
                      case zl => first | omega | simp
                      case zk => decide
                      case zx => first | omega | (rw [size_list]; omega)
                      rintro e w9 ⟨rfl, h9⟩
                      have F9 := hid h9
                      clear h9
                      go_wp2
                      exact ⟨⟨k + 1, by simp, by omega, by rw [HNX.out]; exact F9.out⟩, by simp [intOf]; omega⟩
                    · obtain rfl : k = m.ws.length := by omega
                      rw [List.take_length] at HF
                      have HE := hid HFL.out.e
                      clear hF hlt hLl
                      go_wp2
                      go_meet
                      rw [HE.out]
                      exact HF.out
                case rest =>
                  rename World => W8
                  have F8 := hid hcut
                  clear hcut F7
                  have f0 := F8.out.bA.cellv 0 rfl; have f1 := F8.out.bA.cellv 1 rfl; have f2 := F8.out.bA.cellv 2 rfl; have f3 := F8.out.bA.cellv 3 rfl; have f4 := F8.out.bA.cellv 4 rfl; have f5 := F8.out.bA.cellv 5 rfl; have f6 := F8.out.bA.cellv 6 rfl; have fl := F8.out.bA.lt
                  go_upto_block 4 with fail
                  clear f0 f1 f2 f3 f4 f5 f6 fl
                  go_cut [] (fun wx => FmS w wx m ⟨ta, tc, pa, pc, sa, sc, oa, oc⟩ C L6)
                  case first =>
                    go_wp2_with fail
                    go_loopw [75] (fun i wr => ∃ k : Nat, i = .int .i64 k ∧ k ≤ m.pe.length ∧ FmS w wr m ⟨ta, tc, pa, pc, sa, sc, oa, oc⟩ C (L5 ++ partsB (peT (m.pe.take k)))) (fun i _ => m.pe.length - (intOf i).toNat)
                    case atStart => exact ⟨0, rfl, by omega, by rw [List.take_zero, show partsB (peT []) = [] from rfl, List.append_nil]; exact F8.out⟩
                    case round =>
                      obtain ⟨k, rfl, hk, hF⟩ := hrel
                      have HF := hid hF
                      have hlc := HLN.out.2.2
                      have hLl : (L5 ++ partsB (peT (m.pe.take k))).length ≤ 100 := by
                        rw [List.length_append, partsB_pelen, List.length_take]
                        omega
                      by_cases hlt : k < m.pe.length
                      · have hltI : (k : Int) < (m.pe.length : Int) := by omega
                        obtain ⟨b1, o1, rfl, -, hc1⟩ := AdrsAt.get (HPA.out _ hF.new) (by omega)
                        obtain ⟨g0, g1, g2⟩ := hc1 k hlt
                        have hok := HSZ.out.pe _ (List.getElem_mem hlt)
                        have HTX := hid (fun W (n : New w W) => adrText_any m.pe[k] W hok (HV.out W n))
                        have hal := atxt_len hok
                        have HES := hid (fun W => escape_any (mkB (atxt m.pe[k])) W (by rw [mkB_sz]; omega))
                        have hes := eOf_len (atxt m.pe[k])
                        have HTK := hid (partsB_takeP hlt)
                        obtain ⟨x, hx⟩ : ∃ x, x = m.pe[k] := ⟨_, rfl⟩
                        rw [← hx] at g0 g1 g2 HES hes HTK HTX hal
                        rw [show (mkB (atxt x)).data.toList = atxt x from rfl] at HES
                        have hesz : (⟨(eOf (atxt x)).toArray⟩ : ByteArray).size ≤ 600 := by rw [size_list]; omega
                        obtain ⟨LL, hLL⟩ : ∃ LL, LL = L5 ++ partsB (peT (m.pe.take k)) := ⟨_, rfl⟩
                        have HNX := hid (show L5 ++ partsB (peT (m.pe.take (k + 1))) = LL ++ [kvB pPe (mkB (eOf (atxt x)))] by rw [HTK.out, hLL, List.append_assoc])
                        rw [← hLL] at HF hLl
                        clear hc1 hF hx hes hLL HTK hok hal
                        go_wp2_with fail
                        refine (HTX.out _ (HF.out.new.alloc _)).mono ?_
                        rintro e w7 ⟨rfl, n7⟩
                        have F7 := hid (HF.out.next (((Mod.refl _ _).alloc _).trans n7))
                        clear n7 g0 g1 g2
                        go_wp2_with fail
                        refine (HES.out _).mono ?_
                        rintro e w8 ⟨rfl, n8⟩
                        have F8 := hid (F7.out.next n8)
                        clear n8
                        go_wp2_with fail
                        go_at_call 51
                        refine (add_any _ _ C w _ m _ _ F8.out ?zl ?zk ?zx).mono ?_
                        case zl => first | omega | simp
                        case zk => decide
                        case zx => first | omega | (rw [size_list]; omega)
                        rintro e w9 ⟨rfl, h9⟩
                        have F9 := hid h9
                        clear h9
                        go_wp2
                        exact ⟨⟨k + 1, by simp, by omega, by rw [HNX.out]; exact F9.out⟩, by simp [intOf]; omega⟩
                      · obtain rfl : k = m.pe.length := by omega
                        rw [List.take_length] at HF
                        have HE := hid HFL.out.f
                        clear hF hlt hLl
                        go_wp2
                        go_meet
                        rw [HE.out]
                        exact HF.out
                  case rest =>
                    rename World => W9
                    have F9 := hid hcut
                    clear hcut F8
                    go_upto_region 27 with fail
                    have f0 := F9.out.bA.cellv 0 rfl; have f1 := F9.out.bA.cellv 1 rfl; have f2 := F9.out.bA.cellv 2 rfl; have f3 := F9.out.bA.cellv 3 rfl; have f4 := F9.out.bA.cellv 4 rfl; have f5 := F9.out.bA.cellv 5 rfl; have f6 := F9.out.bA.cellv 6 rfl; have fl := F9.out.bA.lt
                    obtain ⟨S, hS, hfs, hms⟩ := onB_field HOKV.out.on
                    have HFR := hid (fun W (n : New w W) => bFrom_any 40 m.on (.slice oa m.on.length oc) W (HMA.out W n).on.runs (by omega))
                    rw [hfs] at HFR
                    have HBT := hid (fun W (n : New w W) => bText_any 40 (mkB S) W hS (by omega) (HV.out W n))
                    rw [show (mkB S).data.toList = S from rfl, ← hms] at HBT
                    have htl : (mkB (txtR m.on)).size ≤ 2000 := by
                      have := txt_len40 hS
                      rw [← hms] at this
                      rw [mkB_sz]
                      omega
                    have HGE := hid (show m.on = [] → partsB (mgParts m) = L6 from fun q => by rw [HFL.out.g, q]; unfold onT; rw [if_pos rfl]; unfold partsB; simp)
                    have HGN := hid (show m.on ≠ [] → partsB (mgParts m) = L6 ++ [kvB pSo (mkB (txtR m.on))] from fun q => by rw [HFL.out.g]; unfold onT; rw [if_neg q, kvB_key]; rfl)
                    obtain ⟨T, hT⟩ : ∃ T, T = mkB (txtR m.on) := ⟨_, rfl⟩
                    rw [← hT] at HBT htl HGN
                    clear hfs hS hms hT
                    obtain ⟨B, hB⟩ : ∃ B, B = decide (m.on ≠ []) := ⟨_, rfl⟩
                    go_cut [92] (fun s wx => s = .bool B ∧ W9 = wx)
                    case first =>
                      by_cases hn : m.on = []
                      · have HB := hid (show B = false by rw [hB, decide_eq_false (fun q => q hn)])
                        have hi0 : ¬ (0 : Int) < (m.on.length : Int) := by rw [hn]; simp
                        clear hn hB
                        go_wp2
                        go_meet
                        exact ⟨by rw [HB.out]; congr 1; exact decide_eq_false (by omega), rfl⟩
                      · have HB := hid (show B = true by rw [hB, decide_eq_true hn])
                        have hi0 : (0 : Int) < (m.on.length : Int) := by
                          have : m.on.length ≠ 0 := fun q => hn (List.eq_nil_of_length_eq_zero q)
                          omega
                        clear hn hB
                        go_wp2
                        go_meet
                        exact ⟨by rw [HB.out]; congr 1; exact decide_eq_true (by omega), rfl⟩
                    case rest =>
                      obtain ⟨rfl, rfl⟩ := hcut
                      go_upto_if 92 with fail
                      go_cut [] (fun wx => FmS w wx m ⟨ta, tc, pa, pc, sa, sc, oa, oc⟩ C (partsB (mgParts m)))
                      case first =>
                        cases B with
                        | false =>
                          have HE := hid (HGE.out (Decidable.not_not.1 (of_decide_eq_false hB.symm)))
                          clear hB
                          go_wp2
                          go_meet
                          rw [HE.out]
                          exact F9.out
                        | true =>
                          have HE := hid (HGN.out (of_decide_eq_true hB.symm))
                          clear hB
                          go_wp2_with fail
                          refine (HFR.out _ F9.out.new).mono ?_
                          rintro e w7 ⟨rfl, n7⟩
                          simp only [frE]
                          have F7 := hid (F9.out.next n7)
                          clear n7 F9
                          clear f0 f1 f2 f3 f4 f5 f6 fl
                          go_wp2_with fail
                          refine (HBT.out _ F7.out.new).mono ?_
                          rintro e w8 ⟨rfl, n8⟩
                          have F8 := hid (F7.out.next n8)
                          clear n8 F7
                          go_wp2_with fail
                          go_at_call 51
                          refine (add_any _ _ C w _ m _ _ F8.out ?zl ?zk ?zx).mono ?_
                          case zl => first | omega | simp
                          case zk => decide
                          case zx => first | omega | (rw [size_list]; omega)
                          rintro e w9 ⟨rfl, h9⟩
                          have F9 := hid h9
                          clear h9
                          go_wp2
                          go_meet
                          rw [HE.out]
                          exact F9.out
                      case rest =>
                        rename World => WA
                        have FA := hid hcut
                        clear hcut F9
                        clear f0 f1 f2 f3 f4 f5 f6 fl
                        have hpl : (partsB (mgParts m)).length ≤ 44 := by
                          rw [HFL.out.g, List.length_append]
                          have : (partsB (onT m.on)).length ≤ 1 := by
                            unfold onT partsB
                            split <;> simp
                          omega
                        obtain ⟨la, lc, hcell, hst⟩ := FA.out.cells
                        have hwt := parts_wt HOKV.out
                        have HJ := hid (join_c 38 la lc (partsB (mgParts m)) WA hst (by omega) (fun x hx => by
                          obtain ⟨y, hy, rfl⟩ := List.mem_map.1 hx
                          have := mem_wt _ _ hy
                          rw [mkB_sz]
                          omega))
                        rw [partsB_join] at HJ
                        have hjl := join_wt 38 (mgParts m)
                        obtain ⟨J, hJ⟩ : ∃ J, J = Lib.join (mgParts m) [38] := ⟨_, rfl⟩
                        rw [← hJ] at HJ hjl
                        have HR := hid (show (⟨#[109, 97, 103, 110, 101, 116, 58, 63]⟩ : ByteArray) ++ mkB J = mkB (magT m) by
                          unfold magT
                          rw [← hJ, show (⟨#[109, 97, 103, 110, 101, 116, 58, 63]⟩ : ByteArray) = mkB kHead from rfl, mkB_app])
                        have hjs : (mkB J).size ≤ 24000 := by rw [mkB_sz]; omega
                        have hms8 : (⟨#[109, 97, 103, 110, 101, 116, 58, 63]⟩ : ByteArray).size = 8 := rfl
                        have HL7 := hid hpl
                        obtain ⟨NP, hNP⟩ : ∃ NP, NP = (partsB (mgParts m)).length := ⟨_, rfl⟩
                        rw [← hNP] at HJ hcell
                        clear hst hwt hJ hjl hpl hNP
                        go_wp2_with fail
                        refine HJ.out.mono ?_
                        rintro e wz ⟨rfl, nz⟩
                        have NF := hid (FA.out.new.trans nz)
                        clear nz hcell
                        go_wp2
                        go_ret2
                        exact ⟨by rw [HR.out]; rfl, NF.out⟩
theorem mFormat_any (m : MgV) (p : MgP) (w : World) (h : MagAt w m p) (hv : VarP w) :
    Calls Tryz.prog 17 #[magVal m p] w fun e w' => e = .returned (.tuple #[.string (fmtX m), .int .i64 (fmtE m)]) ∧ New w w' := by
  cases hva : validMg m with
  | true =>
    unfold fmtX fmtE
    rw [if_pos hva, if_pos hva]
    exact mFormat_ok m p w h hv (validMg_iff.1 hva)
  | false =>
    unfold fmtX fmtE
    rw [if_neg (by rw [hva]; decide), if_neg (by rw [hva]; decide)]
    have HVA := hid (fun W (n : New w W) => mValid_any m p W (h.new n))
    rw [hva] at HVA
    obtain ⟨ta, tc, pa, pc, sa, sc, oa, oc⟩ := p
    simp only [magVal, magRow] at HVA ⊢
    clear h hv hva
    go_enter Tryz.func17, Tryz.ntmps17
    go_wp2_with fail
    refine (HVA.out _ ((Mod.refl _ w).alloc _)).mono ?_
    rintro e w2 ⟨rfl, n2⟩
    have N2 := hid (((Mod.refl (fun _ => False) w).alloc _).trans n2)
    clear n2
    go_wp2
    go_ret2
    exact ⟨rfl, N2.out⟩
end Go.Proofs.YtbgmkplpolgebaaGreatDoor
