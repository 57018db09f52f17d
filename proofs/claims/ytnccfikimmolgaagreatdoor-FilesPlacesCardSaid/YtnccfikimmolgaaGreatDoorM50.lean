/-
  Several texts in one, in their build order. The walks of the reference's holders, Of and Cover. Conditions: the lists lie as told, the files asked for are few.
-/
import Derived.Test.YtnccfikimmolgaaGreatDoorM45
import Derived.Test.YtnccfikimmolgaaGreatDoorM49
import Derived.Outline
namespace Go.Proofs.YtnccfikimmolgaaGreatDoor
set_option linter.unusedSimpArgs false
set_option linter.unusedVariables false
open Go.RowKit Go.Shelf

theorem holds_next {ks : List Int} {S : List SpanV} {i : Nat} (h : i < S.length) : holdsB ks (S.take (i + 1)) = (holdsB ks (S.take i) || ks.any fun k => decide (S[i].file = k)) := by
  rw [List.take_succ_eq_append_getElem h, holds_app]
  simp [holdsB]
theorem any_next {ks : List Int} {x : Int} {q : Nat} (h : q < ks.length) : ((ks.take (q + 1)).any fun k => decide (x = k)) = (((ks.take q).any fun k => decide (x = k)) || decide (x = ks[q])) := by
  rw [List.take_succ_eq_append_getElem h, List.any_append]
  simp
set_option maxRecDepth 100000 in
set_option maxHeartbeats 4000000 in
theorem holders_any (a b : Option Addr) (c d : Nat) (l : List FileV) (ks : List Int) (piece : Int) (new : Bool) (w : World) (h : FilesAt w a c l) (hk : IntsAt w b d ks) (hb : wayErr l piece = 0) :
    Calls Tryz.prog 34 #[.slice a l.length c, .int .i64 piece, .bool new, .slice b ks.length d] w fun e w' => (∃ a' c', e = .returned (.slice a' (holdTo ks (cutOf l piece new) (cutOf l piece new).length).length c') ∧ IntsAt w' a' c' (holdTo ks (cutOf l piece new) (cutOf l piece new).length)) ∧ New w w' := by
  obtain ⟨hv, hpp⟩ := way_ok hb
  obtain ⟨v1, v2, v3, v4⟩ := valid_facts hv
  obtain ⟨p1, p2⟩ := piece_range hpp
  have HCU := hid (cut_any a c l piece new w h v2 v3 v4 p1 p2)
  have hln := cut_length new hb
  have hle := pieces_le (new := new) hb
  obtain ⟨R, hR⟩ : ∃ R, R = cutOf l piece new := ⟨_, rfl⟩
  rw [← hR] at hln HCU ⊢
  have hR7 : R.length ≤ 70000 := by omega
  have hr := hk.room; have hc := hk.cap
  unfold maxLen at hc
  have HK := hid hk
  obtain ⟨i0, hi, hz0, hz1, hz2⟩ := info_parts info_int
  clear h hb hv hpp v1 v2 v3 v4 hln hle hR hk
  go_enter Tryz.func34, Tryz.ntmps34
  go_wp2_with fail
  refine HCU.out.mono ?_
  rintro e w2 ⟨v, vs, rfl, hO, n2⟩
  obtain ⟨ra, rc, rfl, hr1, hr2, hr3⟩ := hO.rows
  unfold maxLen at hr2
  have N2 := hid n2; have HR3 := hid hr3
  clear n2 hO hr3
  go_wp2
  go_loopw [22, 9] (fun x v wr => ∃ (j : Nat) (v1 : Value), x = .int .i64 j ∧ v1 = v ∧ j ≤ R.length ∧ OwnI wr w2.heap.size v1 (holdTo ks R j) ∧ New w2 wr) (fun x _ _ => R.length - (intOf x).toNat)
  case atStart => exact ⟨0, _, rfl, rfl, by omega, by rw [holdTo_zero]; exact OwnI.nil _ _, Mod.refl _ _⟩
  case round =>
    obtain ⟨j, v1, rfl, rfl, hj, ho, hn⟩ := hrel
    have HO := hid ho
    have hol := holdTo_len ks R j
    clear ho
    by_cases hlt : j < R.length
    · rcases HR3.out with hr3 | ⟨g, rfl, hg, hrow⟩
      · subst hr3; simp at hlt
      obtain ⟨sa, sc, hc0, hsp⟩ := hrow j hlt
      have hc0 := hn.cellv hc0
      have hsp := hsp.new hn
      have HHN := hid (holdTo_next (ks := ks) hlt)
      obtain ⟨S, hSS⟩ : ∃ S, S = R[j] := ⟨_, rfl⟩
      rw [← hSS] at hc0 hsp HHN
      have hsr := hsp.room; have hsc := hsp.cap
      unfold maxLen at hsc
      have HSP := hid hsp; have HN := hid hn
      have hgw : g < wr.heap.size := by have := hn.size; omega
      obtain ⟨H, hH⟩ : ∃ H, H = holdTo ks R j := ⟨_, rfl⟩
      rw [← hH] at HO hol HHN
      clear hn hSS hsp hrow hH
      go_wp2
      obtain ⟨wo, rfl⟩ : ∃ wo : World, wo = wr := ⟨_, rfl⟩
      go_loopw [29, 12] (fun x f wr => ∃ (i : Nat) (fb : Bool), x = .int .i64 i ∧ f = .bool fb ∧ i ≤ S.length ∧ fb = holdsB ks (S.take i) ∧ New wo wr) (fun x _ _ => S.length - (intOf x).toNat)
      case atStart => exact ⟨0, false, rfl, rfl, by omega, by simp [holdsB], Mod.refl _ _⟩
      case round =>
        obtain ⟨i, fb, rfl, rfl, hi2, hfb, hn⟩ := hrel
        have HFB := hid hfb
        clear hfb
        by_cases hlt2 : i < S.length
        · obtain ⟨b3, o3, rfl, hb3, hc3⟩ := HSP.out.get (by omega)
          obtain ⟨g0, g1, g2⟩ := hc3 i hlt2
          have g0 := hn.cellv g0; have g1 := hn.cellv g1; have g2 := hn.cellv g2
          have HHX := hid (holds_next (ks := ks) hlt2)
          obtain ⟨s, hs⟩ : ∃ s, s = S[i] := ⟨_, rfl⟩
          rw [← hs] at g0 g1 g2 HHX
          have hbw3 : b3 < wr.heap.size := by have := hn.size; omega
          have HN2 := hid hn
          clear hc3 hs hn
          obtain ⟨sf, sr, sc2⟩ := s
          simp only at g0 g1 g2 HHX
          go_wp2
          obtain ⟨wq, rfl⟩ : ∃ wq : World, wq = wr := ⟨_, rfl⟩
          go_loopw [35, 12] (fun x f wr => ∃ (q : Nat) (fc : Bool), x = .int .i64 q ∧ f = .bool fc ∧ q ≤ ks.length ∧ fc = (fb || (ks.take q).any fun k => decide (sf = k)) ∧ Blk wr wq.heap.size #[.int .i64 sf, .int .i64 sr, .int .i64 sc2] 40 ∧ New wq wr) (fun x _ _ => ks.length - (intOf x).toNat)
          case atStart => exact ⟨0, fb, rfl, rfl, by omega, by simp, Blk.new _ _ _, (Mod.refl _ _).alloc _⟩
          case round =>
            obtain ⟨q, fc, rfl, rfl, hq, hfc, hblk, hn⟩ := hrel
            have HFC := hid hfc
            have c0 := hblk.cellv 0 (v := .int .i64 sf) rfl
            have HBK := hid hblk
            have cl := hblk.lt
            clear hfc hblk
            by_cases hlt3 : q < ks.length
            · obtain ⟨b1, o1, rfl, hb1, hc1⟩ := HK.out.get (by omega)
              have k0 := ((N2.out.trans (HN.out.trans HN2.out)).trans hn).cellv (hc1 q hlt3)
              have HAX := hid (any_next (x := sf) hlt3)
              obtain ⟨x, hx⟩ : ∃ x, x = ks[q] := ⟨_, rfl⟩
              rw [← hx] at k0 HAX
              have HN3 := hid hn
              have hbw1 : b1 < wr.heap.size := by have := ((N2.out.trans (HN.out.trans HN2.out)).trans hn).size; omega
              clear hc1 hx hn
              cases fc with
              | true =>
                go_wp2
                go_roundw
                case rel => exact ⟨q + 1, true, by simp, rfl, by omega, by rw [HAX.out, ← Bool.or_assoc, ← HFC.out, Bool.true_or], HBK.out, HN3.out⟩
                case measure => simp [intOf]; omega
              | false =>
                by_cases hx : sf = x
                · have hx1 : (sf == x) = true := by simpa using hx
                  have HX := hid hx
                  clear hx
                  go_wp2
                  go_roundw
                  case rel => exact ⟨q + 1, true, by simp, rfl, by omega, by rw [HAX.out, ← Bool.or_assoc, ← HFC.out, Bool.false_or, decide_eq_true HX.out], HBK.out, HN3.out⟩
                  case measure => simp [intOf]; omega
                · have hx1 : (sf == x) = false := by simpa using hx
                  have HX := hid hx
                  clear hx
                  go_wp2
                  go_roundw
                  case rel => exact ⟨q + 1, false, by simp, rfl, by omega, by rw [HAX.out, ← Bool.or_assoc, ← HFC.out, Bool.false_or, decide_eq_false HX.out], HBK.out, HN3.out⟩
                  case measure => simp [intOf]; omega
            · have hql : ks.take q = ks := List.take_of_length_le (by omega)
              rw [hql, HFB.out, ← HHX.out] at HFC
              have HN3 := hid hn
              clear hql hn
              go_wp2
              go_roundw
              case rel => exact ⟨i + 1, fc, by simp, rfl, by omega, HFC.out, HN2.out.trans HN3.out⟩
              case measure => simp [intOf]; omega
        · have hil : S.take i = S := List.take_of_length_le (by omega)
          rw [hil] at HFB
          have HN2 := hid hn
          clear hil hn
          cases fb with
          | true =>
            rw [← HFB.out, if_pos rfl] at HHN
            go_wp2_with (at_builtin; refine wpList_append_own_at _ rfl _ _ 23 rfl w2.heap.size 3 i0 _ 1 8 Tryz.underlying23 hi hz0 hz1 hz2 rfl (by decide) v1 H.length (H.map (Value.int .i64)) rfl ?ow ⟨wr.heap.size, 0, none⟩ 1 1 [.int .i64 (j : Int)] rfl rfl ?hn ?h1 ?h63 ?hby ?hba ?_)
            case ow => exact (HO.out.new HN2.out).new ((Mod.refl _ _).alloc _)
            case hn =>
              intro j u hj
              rw [add_none]
              match j, hj with
              | 0, hj => simp at hj; subst hj; exact (Blk.new wr #[.int .i64 _] 3).cellv 0 rfl
            case h1 => intro u hu; simp at hu; subst hu; rfl
            case h63 => unfold maxLen; omega
            case hby => omega
            case hba => have := HN.out.size; have := HN2.out.size; simp; omega
            intro o3 w3 r3 g3 _ _
            have O3 : Hid (OwnI w3 w2.heap.size o3 (holdTo ks R (j + 1))) := hid (by rw [HHN.out]; exact own_push r3 rfl)
            have N3 : Hid (New w2 w3) := hid (New.grown ((HN.out.trans HN2.out).alloc _) g3 (fun j hj => (HO.out.lt j hj)))
            clear r3 g3
            go_wp2
            go_roundw
            case rel => exact ⟨j + 1, _, by simp, rfl, by omega, O3.out, N3.out⟩
            case measure => simp [intOf]; omega
          | false =>
            rw [← HFB.out, if_neg (by decide), List.append_nil] at HHN
            go_wp2
            go_roundw
            case rel => exact ⟨j + 1, _, by simp, rfl, by omega, by rw [HHN.out]; exact HO.out.new HN2.out, HN.out.trans HN2.out⟩
            case measure => simp [intOf]; omega
    · have hjl : j = R.length := by omega
      subst hjl
      have HN := hid hn
      clear hn
      obtain ⟨a', c', rfl, hia⟩ := HO.out.ints
      have HIA := hid hia
      clear hia
      go_wp2
      go_ret
      exact ⟨⟨a', c', rfl, HIA.out⟩, N2.out.trans HN.out⟩
theorem ints_one (w : World) (x : Int) : IntsAt (w.alloc (.cells #[.int .i64 x] 3)) (some ⟨w.heap.size, 0, none⟩) 1 [x] := by
  refine ⟨by simp, by simp [maxLen], .inr ⟨w.heap.size, 0, rfl, by simp, fun i y hy => ?_⟩⟩
  match i, hy with
  | 0, hy => simp at hy; subst hy; exact (Blk.new w #[.int .i64 x] 3).cellv 0 rfl
set_option maxRecDepth 100000 in
set_option maxHeartbeats 2000000 in
theorem rOf_in (a : Option Addr) (c : Nat) (l : List FileV) (piece : Int) (k : Nat) (new : Bool) (w : World) (h : FilesAt w a c l) (h0 : -9223372036854775808 ≤ piece) (h1 : piece ≤ 9223372036854775807) (hb : wayErr l piece = 0) (hk : k < l.length) :
    Calls Tryz.prog 10 #[.slice a l.length c, .int .i64 piece, .bool new, .int .i64 k] w fun e w' => e = .returned (.tuple #[.agg #[.int .i64 (runF l piece new k l[k]), .int .i64 (runC l piece new k l[k])], .int .i64 0]) ∧ New w w' := by
  obtain ⟨hv, hpp⟩ := way_ok hb
  obtain ⟨v1, v2, v3, v4⟩ := valid_facts hv
  obtain ⟨p1, p2⟩ := piece_range hpp
  have HC := hid (fun W (n : New w W) => rcheck_any a c l piece W (h.new n) h0 h1)
  rw [hb] at HC
  have HH := hid (fun W g (n : New w W) (hi : IntsAt W (some ⟨g, 0, none⟩) 1 [(k : Int)]) => holders_any a (some ⟨g, 0, none⟩) c 1 l [(k : Int)] piece new W (h.new n) hi hb)
  rw [hold_run (piece := piece) (new := new) (by omega) v3 hk] at HH
  have hr := h.room; have hc := h.cap
  unfold maxLen at hc
  have hkI : (k : Int) < (l.length : Int) := by omega
  obtain ⟨q1, q2, q3, q4⟩ := run_bd (piece := piece) (new := new) (by omega) v3 hk
  have hno : hasW new l[k] = false → runF l piece new k l[k] = 0 ∧ runC l piece new k l[k] = 0 := fun e => by simp [runF, runC, e]
  obtain ⟨hw, hhw⟩ : ∃ hw, hw = hasW new l[k] := ⟨_, rfl⟩
  rw [← hhw] at q4 hno
  obtain ⟨F, hF⟩ := Int.eq_ofNat_of_zero_le q1
  obtain ⟨C, hC⟩ := Int.eq_ofNat_of_zero_le q2
  rw [hF, hC] at HH hno ⊢
  rw [hC] at q4
  rw [Int.toNat_natCast, Int.toNat_natCast] at HH
  clear h hb hv hpp v1 v2 v3 v4 q1 q2 q3 hF hC hhw
  by_cases hz : C = 0
  · have hF0 : F = 0 := by
      cases hw with
      | true => have := q4 rfl; omega
      | false => have := (hno rfl).1; omega
    subst hz hF0
    simp only [List.range'_zero, List.map_nil] at HH
    clear hno q4
    go_enter Tryz.func10, Tryz.ntmps10
    go_wp2_with fail
    refine (HC.out _ ((Mod.refl (fun _ => False) w).alloc _)).mono ?_
    rintro e w1 ⟨rfl, nw⟩
    have N1 := hid (Mod.trans ((Mod.refl (fun _ => False) w).alloc _) nw)
    have B1 := hid (nw.blk (Blk.new w #[.int .i64 0, .int .i64 0] 30))
    clear nw
    go_wp2_with fail
    refine (HH.out _ _ (N1.out.alloc _) (ints_one w1 (k : Int))).mono ?_
    rintro e w2 ⟨⟨a', c', rfl, hia⟩, n2⟩
    have N2 := hid ((N1.out.alloc _).trans n2)
    have B2 := hid (n2.blk (B1.out.alloc _))
    clear hia n2
    simp only [List.length_nil]
    have c0 := (B2.out).cellv 0 rfl; have c1 := (B2.out).cellv 1 rfl; have f0 := (B2.out).frz 0; have f1 := (B2.out).frz 1; have fl := (B2.out).lt
    go_wp2
    refine bodyPost_ret (v := .tuple #[.agg #[.int .i64 (0), .int .i64 (0)], .int .i64 0]) (by simp [results, Tryz.results10, go_sem, c0, c1, f0, f1, fl]) rfl ⟨rfl, ?_⟩
    repeat (first | with_reducible exact N2.out | with_reducible refine Mod.alloc ?_ _ | with_reducible refine Mod.drew ?_ | with_reducible refine Mod.drewN ?_ _ | (with_reducible refine Mod.set ?_ _ _ (by first | exact .inl rfl | (right; omega) | (right; simp; done) | (right; simp; omega) | (left; omega) | (left; simp; done) | (left; simp; omega))) | (with_reducible refine Mod.putObj ?_ _ _ (by first | exact .inl rfl | (right; omega) | (right; simp; done) | (right; simp; omega) | (left; omega) | (left; simp; done) | (left; simp; omega))))
  · obtain ⟨D, rfl⟩ : ∃ D, C = D + 1 := ⟨C - 1, by omega⟩
    have hll : ((List.range' F (D + 1)).map (fun i : Nat => (i : Int))).length = D + 1 := by simp
    have hl0 : ((List.range' F (D + 1)).map (fun i : Nat => (i : Int)))[0]? = some (F : Int) := by simp [List.range'_succ]
    obtain ⟨L, hL⟩ : ∃ L, L = (List.range' F (D + 1)).map (fun i : Nat => (i : Int)) := ⟨_, rfl⟩
    rw [← hL] at HH hll hl0
    rw [hll] at HH
    have HL0 := hid hl0; have HLL := hid hll
    clear hL hl0 hll hno q4 hz
    go_enter Tryz.func10, Tryz.ntmps10
    go_wp2_with fail
    refine (HC.out _ ((Mod.refl (fun _ => False) w).alloc _)).mono ?_
    rintro e w1 ⟨rfl, nw⟩
    have N1 := hid (Mod.trans ((Mod.refl (fun _ => False) w).alloc _) nw)
    have B1 := hid (nw.blk (Blk.new w #[.int .i64 0, .int .i64 0] 30))
    clear nw
    go_wp2_with fail
    refine (HH.out _ _ (N1.out.alloc _) (ints_one w1 (k : Int))).mono ?_
    rintro e w2 ⟨⟨a', c', rfl, hia⟩, n2⟩
    have N2 := hid ((N1.out.alloc _).trans n2)
    have B2 := hid (n2.blk (B1.out.alloc _))
    have hlr := hia.room; have hlc := hia.cap
    unfold maxLen at hlc
    rw [HLL.out] at hlr
    obtain ⟨b2, o2, rfl, hb2, hc2⟩ := hia.get (by have := HLL.out; omega)
    have k0 := hc2 0 (by have := HLL.out; omega)
    rw [show L[0]'(by have := HLL.out; omega) = (F : Int) from by have := HL0.out; rw [List.getElem?_eq_getElem (by have := HLL.out; omega)] at this; exact Option.some.inj this, Nat.add_zero] at k0
    clear hia n2 hc2
    have c0 := (B2.out).cellv 0 rfl; have c1 := (B2.out).cellv 1 rfl; have f0 := (B2.out).frz 0; have f1 := (B2.out).frz 1; have fl := (B2.out).lt
    go_wp2
    refine bodyPost_ret (v := .tuple #[.agg #[.int .i64 (F), .int .i64 (((D + 1 : Nat) : Int))], .int .i64 0]) (by simp [results, Tryz.results10, go_sem, c0, c1, f0, f1, fl]) rfl ⟨rfl, ?_⟩
    repeat (first | with_reducible exact N2.out | with_reducible refine Mod.alloc ?_ _ | with_reducible refine Mod.drew ?_ | with_reducible refine Mod.drewN ?_ _ | (with_reducible refine Mod.set ?_ _ _ (by first | exact .inl rfl | (right; omega) | (right; simp; done) | (right; simp; omega) | (left; omega) | (left; simp; done) | (left; simp; omega))) | (with_reducible refine Mod.putObj ?_ _ _ (by first | exact .inl rfl | (right; omega) | (right; simp; done) | (right; simp; omega) | (left; omega) | (left; simp; done) | (left; simp; omega))))
theorem rOf_any (a : Option Addr) (c : Nat) (l : List FileV) (piece file : Int) (new : Bool) (w : World) (h : FilesAt w a c l) (h0 : -9223372036854775808 ≤ piece) (h1 : piece ≤ 9223372036854775807) :
    Calls Tryz.prog 10 #[.slice a l.length c, .int .i64 piece, .bool new, .int .i64 file] w fun e w' => e = .returned (.tuple #[.agg #[.int .i64 (ofF l piece new file), .int .i64 (ofC l piece new file)], .int .i64 (ofErr l piece file)]) ∧ New w w' := by
  unfold ofF ofC ofErr
  by_cases hb : wayErr l piece = 0
  · simp only [hb, if_true]
    cases hx : fileIx l file with
    | some f =>
      obtain ⟨k, rfl, hk, hf⟩ := fileIx_some hx
      subst hf
      exact rOf_in a c l piece k new w h h0 h1 hb hk
    | none =>
      have HC := hid (fun W (n : New w W) => rcheck_any a c l piece W (h.new n) h0 h1)
      rw [hb] at HC
      have hr := h.room; have hc := h.cap
      unfold maxLen at hc
      rcases fileIx_none hx with h2 | ⟨h2, h3⟩
      all_goals
        clear h hb hx
        go_enter Tryz.func10, Tryz.ntmps10
        go_wp2_with fail
        refine (HC.out _ ((Mod.refl (fun _ => False) w).alloc _)).mono ?_
        rintro e w1 ⟨rfl, nw⟩
        have N1 := hid (Mod.trans ((Mod.refl (fun _ => False) w).alloc _) nw)
        have B1 := hid (nw.blk (Blk.new w #[.int .i64 0, .int .i64 0] 30))
        clear nw
        have c0 := (B1.out).cellv 0 rfl; have c1 := (B1.out).cellv 1 rfl; have f0 := (B1.out).frz 0; have f1 := (B1.out).frz 1; have fl := (B1.out).lt
        go_wp2
        refine bodyPost_ret (v := .tuple #[.agg #[.int .i64 (0), .int .i64 (0)], .int .i64 7]) (by simp [results, Tryz.results10, go_sem, c0, c1, f0, f1, fl]) rfl ⟨rfl, ?_⟩
        repeat (first | with_reducible exact N1.out | with_reducible refine Mod.alloc ?_ _ | with_reducible refine Mod.drew ?_ | with_reducible refine Mod.drewN ?_ _ | (with_reducible refine Mod.set ?_ _ _ (by first | exact .inl rfl | (right; omega) | (right; simp; done) | (right; simp; omega) | (left; omega) | (left; simp; done) | (left; simp; omega))) | (with_reducible refine Mod.putObj ?_ _ _ (by first | exact .inl rfl | (right; omega) | (right; simp; done) | (right; simp; omega) | (left; omega) | (left; simp; done) | (left; simp; omega))))
  · simp only [if_neg hb]
    have HC := hid (fun W (n : New w W) => rcheck_any a c l piece W (h.new n) h0 h1)
    have h3 : ((wayErr l piece) == 0) = false := by simpa using hb
    have h4 : ((wayErr l piece) != 0) = true := by simpa using hb
    clear h hb
    go_enter Tryz.func10, Tryz.ntmps10
    go_wp2_with fail
    refine (HC.out _ ((Mod.refl (fun _ => False) w).alloc _)).mono ?_
    rintro e w1 ⟨rfl, nw⟩
    have N1 := hid (Mod.trans ((Mod.refl (fun _ => False) w).alloc _) nw)
    have B1 := hid (nw.blk (Blk.new w #[.int .i64 0, .int .i64 0] 30))
    clear nw
    have c0 := (B1.out).cellv 0 rfl; have c1 := (B1.out).cellv 1 rfl; have f0 := (B1.out).frz 0; have f1 := (B1.out).frz 1; have fl := (B1.out).lt
    go_wp2
    refine bodyPost_ret (v := .tuple #[.agg #[.int .i64 (0), .int .i64 (0)], .int .i64 (wayErr l piece)]) (by simp [results, Tryz.results10, go_sem, c0, c1, f0, f1, fl]) rfl ⟨rfl, ?_⟩
    repeat (first | with_reducible exact N1.out | with_reducible refine Mod.alloc ?_ _ | with_reducible refine Mod.drew ?_ | with_reducible refine Mod.drewN ?_ _ | (with_reducible refine Mod.set ?_ _ _ (by first | exact .inl rfl | (right; omega) | (right; simp; done) | (right; simp; omega) | (left; omega) | (left; simp; done) | (left; simp; omega))) | (with_reducible refine Mod.putObj ?_ _ _ (by first | exact .inl rfl | (right; omega) | (right; simp; done) | (right; simp; omega) | (left; omega) | (left; simp; done) | (left; simp; omega))))
set_option maxRecDepth 100000 in
set_option maxHeartbeats 2000000 in
theorem rCover_any (a b : Option Addr) (c d : Nat) (l : List FileV) (ks : List Int) (piece : Int) (new : Bool) (w : World) (h : FilesAt w a c l) (hk : IntsAt w b d ks) (h0 : -9223372036854775808 ≤ piece) (h1 : piece ≤ 9223372036854775807) :
    Calls Tryz.prog 12 #[.slice a l.length c, .int .i64 piece, .bool new, .slice b ks.length d] w fun e w' => (∃ a' c', e = .returned (.tuple #[.slice a' (coverL l piece new ks).length c', .int .i64 (coverErr l piece ks)]) ∧ IntsAt w' a' c' (coverL l piece new ks)) ∧ New w w' := by
  have HC := hid (rcheck_any a c l piece w h h0 h1)
  by_cases hb : wayErr l piece = 0
  · have HCE : Hid (coverErr l piece ks = if ks.all (fun k => (fileIx l k).isSome) then 0 else 7) := hid (by simp [coverErr, hb])
    have HH := hid (fun W (n : New w W) => holders_any a b c d l ks piece new W (h.new n) (hk.new n) hb)
    obtain ⟨E, hE⟩ : ∃ E, E = coverErr l piece ks := ⟨_, rfl⟩
    obtain ⟨L, hL⟩ : ∃ L, L = coverL l piece new ks := ⟨_, rfl⟩
    rw [← hE, ← hL]
    have HE := hid hE; have HL := hid hL
    rw [hb] at HC
    have hr := hk.room; have hc := hk.cap; have hr2 := h.room; have hc2 := h.cap
    unfold maxLen at hc hc2
    have HK := hid hk
    clear h hb hk hE hL
    go_enter Tryz.func12, Tryz.ntmps12
    go_wp2_with fail
    refine HC.out.mono ?_
    rintro e w1 ⟨rfl, n1⟩
    have N1 := hid n1
    clear n1
    go_wp2
    go_loopw [21] (fun x wr => ∃ (j : Nat), x = .int .i64 j ∧ j ≤ ks.length ∧ (∀ k ∈ ks.take j, (fileIx l k).isSome = true) ∧ New w wr) (fun x _ => ks.length - (intOf x).toNat)
    case atStart => exact ⟨0, rfl, by omega, by simp, N1.out⟩
    case round =>
      obtain ⟨j, rfl, hj, hall, hn⟩ := hrel
      have HALL := hid hall; have HN := hid hn
      clear hall
      by_cases hlt : j < ks.length
      · obtain ⟨b1, o1, rfl, hb1, hc1⟩ := HK.out.get (by omega)
        have g0 := hn.cellv (hc1 j hlt)
        have HTS := hid (List.take_succ_eq_append_getElem hlt)
        have HMM := hid (List.getElem_mem hlt)
        obtain ⟨x, hx⟩ : ∃ x, x = ks[j] := ⟨_, rfl⟩
        rw [← hx] at g0 HTS HMM
        clear hx hc1 hn
        cases hfx : fileIx l x with
        | none =>
          have hce : E = 7 := by rw [HE.out, HCE.out, if_neg (fun q => by have := List.all_eq_true.1 q x HMM.out; rw [hfx] at this; cases this)]
          have hcl : L = [] := by rw [HL.out, coverL, ← HE.out, hce]; rfl
          have HCE7 := hid hce; have HCL := hid hcl
          clear hce hcl
          rcases fileIx_none hfx with h2 | ⟨h2, h3⟩
          all_goals
            clear hfx
            go_wp2
            go_ret2
            exact ⟨⟨none, 0, by rw [HCL.out, HCE7.out]; rfl, by rw [HCL.out]; exact IntsAt.nil _⟩, HN.out⟩
        | some f =>
          have HSO := hid (show (fileIx l x).isSome = true by rw [hfx]; rfl)
          obtain ⟨m, rfl, hm, -⟩ := fileIx_some hfx
          clear hfx
          go_wp2
          go_roundw
          case rel =>
            refine ⟨j + 1, by simp, by omega, ?_, HN.out⟩
            intro k hk
            rw [HTS.out] at hk
            rcases List.mem_append.1 hk with q | q
            · exact HALL.out k q
            · rw [List.mem_singleton.1 q]
              exact HSO.out
          case measure => simp [intOf]; omega
      · have hjl : ks.take j = ks := List.take_of_length_le (by omega)
        rw [hjl] at HALL
        have hal : ks.all (fun k => (fileIx l k).isSome) = true := List.all_eq_true.2 HALL.out
        have hce : E = 0 := by rw [HE.out, HCE.out, if_pos hal]
        have hcl : L = holdTo ks (cutOf l piece new) (cutOf l piece new).length := by rw [HL.out, coverL, ← HE.out, hce, if_pos rfl]
        have HCE0 := hid hce
        rw [← hcl] at HH
        clear hjl hal hce hcl hn
        go_wp2_with fail
        refine (HH.out _ HN.out).mono ?_
        rintro e w2 ⟨⟨a', c', rfl, hia⟩, n2⟩
        have HIA := hid hia
        have N2 := hid (HN.out.trans n2)
        clear hia n2
        go_wp2
        go_ret2
        exact ⟨⟨a', c', ret_cov rfl HCE0.out, HIA.out⟩, N2.out⟩
  · have e : coverErr l piece ks = wayErr l piece := by simp [coverErr, hb]
    have e2 : coverL l piece new ks = [] := by rw [coverL, e, if_neg hb]
    rw [e2, e]
    have h3 : ((wayErr l piece) == 0) = false := by simpa using hb
    have h4 : ((wayErr l piece) != 0) = true := by simpa using hb
    clear h hk hb e e2
    go_enter Tryz.func12, Tryz.ntmps12
    go_wp2_with fail
    refine HC.out.mono ?_
    rintro e w1 ⟨rfl, n1⟩
    have N1 := hid n1
    clear n1
    go_wp2
    go_ret2
    exact ⟨⟨none, 0, rfl, IntsAt.nil _⟩, N1.out⟩
end Go.Proofs.YtnccfikimmolgaaGreatDoor
