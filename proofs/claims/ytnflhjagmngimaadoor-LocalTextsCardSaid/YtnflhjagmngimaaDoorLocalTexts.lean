/-
  LocalTexts returns true, for every input, its arguments as they were; the tables and errors of the library tied to the program's text. No condition but the row's own ('laid').
-/
import Derived.Test.YtnflhjagmngimaaDoorFrm
import Derived.Test.YtnflhjagmngimaaDoorOpen
import Derived.Test.YtnflhjagmngimaaDoorOpF
import Derived.Test.YtnflhjagmngimaaDoorOpA
import Derived.Test.YtnflhjagmngimaaDoorLps
import Derived.Test.YtnflhjagmngimaaDoorTie
import Derived.Test.YtnflhjagmngimaaDoorCards
import Derived.SevenTiedAt
namespace Go.Proofs.YtnflhjagmngimaaDoor.localTexts
set_option linter.unusedSimpArgs false
set_option linter.unusedVariables false
open Go.ChangeShapes Go.WideShapes Go.ChangeAt Go.RowKit Go.Deep

section
variable {H : Type} {enc : TypeId × Value → H} {w : World} {base : Nat} {spare : Nat → Bool} {held : Bool}
set_option maxRecDepth 100000 in
theorem open_called {r : Reach} {b0 : Nat} {v : Value} {d : DataW H} {p : List MemPlace} (hv : Value.okWide Tryd.prog w r b0 24 v) (h : DataW.Trod enc Tryd.prog w base spare held 24 v d p) :
    ∃ (m : MsgV) (a : Option Addr) (c : Nat), v = msgV a c m ∧ MsgAt w a c m := by
  obtain ⟨cs, xs, n, rfl, hsz, -, hf⟩ := open_aggN Tryd.underlying24 (by kernel_rfl) (by kernel_rfl) hv h
  obtain ⟨u0, y0, e0, -, t0⟩ := hf 0 _ rfl
  obtain ⟨u1, y1, e1, -, t1⟩ := hf 1 _ rfl
  obtain ⟨u2, y2, e2, -, t2⟩ := hf 2 _ rfl
  obtain ⟨x0, c0, -, w0⟩ := DataW.trod_int Tryd.underlying3 t0
  obtain ⟨a, c, l, rfl, hst, -⟩ := open_pathW t1
  obtain ⟨s, c2, -, hs⟩ := DataW.trod_string Tryd.underlying9 t2
  simp at c0 c2
  subst c0 c2
  refine ⟨⟨x0, l, s⟩, a, c, ?_, ⟨wf_bounds w0, hst, hs⟩⟩
  obtain ⟨q⟩ := cs
  match q, hsz with
  | [a, b, c], _ =>
    simp at e0 e1 e2
    rw [e0, e1, e2]
end
set_option maxRecDepth 100000 in
set_option maxHeartbeats 8000000 in
theorem law_any (m : MsgV) (a : Option Addr) (c : Nat) (text : ByteArray) (w : World) (h : MsgAt w a c m) (hv : VarsL w) (ht : text.size ≤ maxLen) :
    Calls Tryd.prog 3 #[msgV a c m, .string text] w fun e w' => e = .returned (.bool true) ∧ New w w' := by
  have HTS := hid ht
  unfold maxLen at ht
  have HA := hid (fun W (n : New w W) => awake23_any W (hv.new n).tab)
  have HFM := hid (fun W (n : New w W) => Format_any m a c W (h.new n) (hv.new n).tab)
  have HRF := hid (fun W (n : New w W) => rFormat_any m a c W (h.new n) (hv.new n).tab)
  have HVL := hid (fun W (n : New w W) => Valid_any m a c W (h.new n) (hv.new n).tab)
  have HRV := hid (fun W (n : New w W) => rValid_any m a c W (h.new n) (hv.new n).tab)
  have HSM := hid (fun a2 c2 W (n : New w W) (q : StrsAt W a2 c2 m.names) => same_eq m a2 a c2 c W q (h.names.new n))
  have HPS := hid (fun t W (n : New w W) (q : t.size ≤ maxLen) => Parse_any t W (hv.new n) q)
  have HRP := hid (fun t W (n : New w W) (q : t.size ≤ maxLen) => rParse_any t W (hv.new n) q)
  have HB := hid (Blk.new w #[.int .i64 m.port, .slice a m.names.length c, .string m.cookie] 24)
  have HN := hid ((Mod.refl _ w).alloc (.cells #[.int .i64 m.port, .slice a m.names.length c, .string m.cookie] 24) : New w _)
  have hr := h.names.room; have hc := h.names.cap; have hck := h.cook
  unfold maxLen at hc hck
  unfold msgV at HFM HRF HVL HRV
  clear h hv
  have d0 := HB.out.cellv 0 rfl; have d1 := HB.out.cellv 1 rfl; have d2 := HB.out.cellv 2 rfl; have dl := HB.out.lt
  by_cases h1 : 40 < m.names.length
  · go_enter Tryd.func3, Tryd.ntmps3
    go_wp2_with fail
    refine (HA.out _ (HN.out)).mono ?_
    rintro e w99 ⟨rfl, n9⟩
    have N99 := hid n9
    clear n9
    go_wp2
    go_ret
    exact ⟨rfl, (HN.out).trans N99.out⟩
  by_cases h2 : 100 < m.cookie.size
  · go_enter Tryd.func3, Tryd.ntmps3
    go_wp2_with fail
    refine (HA.out _ (HN.out)).mono ?_
    rintro e w99 ⟨rfl, n9⟩
    have N99 := hid n9
    clear n9
    go_wp2
    go_ret
    exact ⟨rfl, (HN.out).trans N99.out⟩
  by_cases h3 : 2000 < text.size
  · go_enter Tryd.func3, Tryd.ntmps3
    go_wp2_with fail
    refine (HA.out _ (HN.out)).mono ?_
    rintro e w99 ⟨rfl, n9⟩
    have N99 := hid n9
    clear n9
    go_wp2
    go_ret
    exact ⟨rfl, (HN.out).trans N99.out⟩
  have HFV := hid (fun (hv : validM m = true) => show fmtB m = mkB (writtenL m) ∧ fmtE m = 0 by unfold fmtB fmtE; rw [hv]; exact ⟨rfl, rfl⟩)
  have HFX := hid (fun (hv : validM m = false) => show fmtE m = 1 by unfold fmtE; rw [hv]; rfl)
  have HPW := hid (fun (hv : validM m = true) => ps_written hv)
  have HWL := hid (fun (hv : validM m = true) => written_len hv)
  obtain ⟨F, hF⟩ : ∃ F, F = fmtB m := ⟨_, rfl⟩
  obtain ⟨E, hE⟩ : ∃ E, E = fmtE m := ⟨_, rfl⟩
  rw [← hF, ← hE] at HFM HRF HFV
  rw [← hE] at HFX
  have hff : (F.toList == F.toList) = true := by rw [beq_iff_eq]
  clear hF hE
  have HNL := hid (show psN text ≤ 1 + pairs text.data.toList by rw [← lines_pairs _ _ (Nat.le_refl _)]; exact psN_le text)
  have HPT := hid (fun W (n : New w W) => HPS.out text W n HTS.out)
  have HRT := hid (fun W (n : New w W) => HRP.out text W n HTS.out)
  obtain ⟨M, hM⟩ : ∃ M, M = psM text := ⟨_, rfl⟩
  obtain ⟨nl, hnl⟩ : ∃ n, n = psN text := ⟨_, rfl⟩
  obtain ⟨E2, hE2⟩ : ∃ n, n = psE text := ⟨_, rfl⟩
  rw [← hM, ← hnl, ← hE2] at HPT
  rw [← hM, ← hE2] at HRT
  rw [← hnl] at HNL
  clear hM hnl hE2
  unfold msgV at HPT HRT
  cases hvm : validM m with
  | false =>
    obtain hE1 := HFX.out hvm
    subst hE1
    rw [hvm] at HVL HRV
    clear hvm
    go_enter Tryd.func3, Tryd.ntmps3
    go_wp2_with fail
    refine (HFM.out _ HN.out).mono ?_
    rintro e w1 ⟨rfl, n1⟩
    have N1 : Hid (New w w1) := hid (HN.out.trans n1)
    have B1 := hid (New.blk n1 HB.out)
    clear n1 d0 d1 d2 dl
    have d0 := B1.out.cellv 0 rfl; have d1 := B1.out.cellv 1 rfl; have d2 := B1.out.cellv 2 rfl; have dl := B1.out.lt
    go_wp2_with fail
    refine (HRF.out _ N1.out).mono ?_
    rintro e w2 ⟨rfl, n2⟩
    have N2 : Hid (New w w2) := hid (N1.out.trans n2)
    have B2 := hid (New.blk n2 B1.out)
    clear n2 d0 d1 d2 dl
    have d0 := B2.out.cellv 0 rfl; have d1 := B2.out.cellv 1 rfl; have d2 := B2.out.cellv 2 rfl; have dl := B2.out.lt
    go_wp2_with fail
    go_region_held3 (fun w' => w'.cell? ⟨w.heap.size, 0, none⟩ = some (.int .i64 m.port) ∧ w'.cell? ⟨w.heap.size, 1, none⟩ = some (.slice a m.names.length c) ∧ w'.cell? ⟨w.heap.size, 2, none⟩ = some (.string m.cookie)) ((first | exact ⟨d0, d1, d2⟩ | exact ⟨j0, j1, j2⟩ | exact ⟨k0, k1, k2⟩ | go_keep)) ((first | (go_at_call 7; refine (HVL.out _ N2.out.drew).mono ?_; rintro e w3 ⟨rfl, n3⟩; have N3 : Hid (New w w3) := hid (N2.out.drew.trans n3); have B3 := hid (New.blk n3 B2.out.drew); clear n3; have k0 := B3.out.cellv 0 rfl; have k1 := B3.out.cellv 1 rfl; have k2 := B3.out.cellv 2 rfl) | (go_at_call 8; refine (HRV.out _ N3.out).mono ?_; rintro e w4 ⟨rfl, n4⟩; have N4 : Hid (New w w4) := hid (N3.out.trans n4); have B4 := hid (New.blk n4 B3.out); clear n4; have j0 := B4.out.cellv 0 rfl; have j1 := B4.out.cellv 1 rfl; have j2 := B4.out.cellv 2 rfl)))
    go_wp2_with fail
    refine (HPT.out _ (N4.out)).mono ?_
    rintro e w5 ⟨a5, c5, rfl, s5, n5⟩
    have N5 : Hid (New w w5) := hid ((N4.out).trans n5)
    have S5 := hid s5
    have B5 := hid (Blk.new w5 #[.int .i64 M.port, .slice a5 M.names.length c5, .string M.cookie] 24)
    clear n5 s5
    go_wp2_with fail
    refine (HRT.out _ (N5.out.alloc _)).mono ?_
    rintro e w6 ⟨a6, c6, rfl, s6, n6⟩
    have NA : Hid (New w5 w6) := hid (((Mod.refl _ w5).alloc (.cells #[.int .i64 M.port, .slice a5 M.names.length c5, .string M.cookie] 24) : New w5 _).trans n6)
    have N6 : Hid (New w w6) := hid (N5.out.trans NA.out)
    have S6 := hid s6
    have S56 := hid (S5.out.new NA.out)
    have B6 := hid (New.blk n6 B5.out)
    clear n6 s6
    have x0 := B6.out.cellv 0 rfl; have x1 := B6.out.cellv 1 rfl; have x2 := B6.out.cellv 2 rfl; have x3 := B6.out.lt
    go_wp2_with fail
    refine (same_eq M a5 a6 c5 c6 _ (S56.out.new ((Mod.refl _ _).alloc _)) (S6.out.new ((Mod.refl _ _).alloc _))).mono ?_
    rintro e w7 ⟨rfl, n7⟩
    have N7 : Hid (New w w7) := hid ((N6.out.alloc _).trans n7)
    clear n7 x0 x1 x2 x3
    have hnl0 : ¬ (nl : Int) < 0 := by omega
    go_wp2_with fail
    go_loopw [15, 16] (fun ls i wr => ∃ (j p : Nat), i = .int .i64 ((j : Int) + 1) ∧ ls = .int .i64 ((p : Int) + 1) ∧ p = pairs (text.data.toList.take (j + 1)) ∧ (j + 1 ≤ text.size ∨ j = 0) ∧ p ≤ j ∧ New w7 wr) (fun _ i _ => text.size - (intOf i).toNat)
    case atStart =>
      refine ⟨0, 0, rfl, rfl, ?_, .inr rfl, by omega, Mod.refl _ _⟩
      cases text.data.toList with
      | nil => rfl
      | cons x r => rfl
    case round =>
      obtain ⟨j, p, rfl, rfl, hp, hj, hpj, hn⟩ := hrel
      have HP := hid hp; have HN7 := hid hn
      clear hp hn
      have hjb : j ≤ 2000 := by omega
      have hpi : (j : Int) + 1 - 1 = (j : Int) := by omega
      by_cases hlt : j + 1 < text.size
      · have hltI : (j : Int) + 1 < (text.size : Int) := by omega
        have HNX := hid (show pairs (text.data.toList.take (j + 2)) = p + (if text[j] = 13 ∧ text[j + 1] = 10 then 1 else 0) by
          have hlen : text.data.toList.length = text.size := by rw [Array.length_toList]; rfl
          have q := pairs_next (l := text.data.toList) (j := j) (by omega)
          rw [← HP.out] at q
          exact q)
        have hj1 : (j : Int) < (text.size : Int) := by omega
        have htn : ((j : Int) + 1).toNat = j + 1 := by omega
        by_cases c1 : text[j] = 13
        · have e1 : ((text[j].toNat : Int) == 13) = true := by rw [c1]; rfl
          by_cases c2 : text[j + 1] = 10
          · have e2 : ((text[j + 1].toNat : Int) == 10) = true := by rw [c2]; rfl
            have HNY := hid (show p + 1 = pairs (text.data.toList.take (j + 2)) by rw [HNX.out, if_pos ⟨c1, c2⟩])
            clear c1 c2
            go_wp2
            exact ⟨⟨j + 1, p + 1, by simp, by simp, HNY.out, .inl (by omega), by omega, HN7.out⟩, by simp [intOf]; omega⟩
          · have e2 : ((text[j + 1].toNat : Int) == 10) = false := by
              rw [beq_eq_false_iff_ne]
              exact fun q => c2 (UInt8.toNat_inj.1 (by rw [show (10 : UInt8).toNat = 10 from rfl]; omega))
            have HNY := hid (show p = pairs (text.data.toList.take (j + 2)) by rw [HNX.out, if_neg (fun q => c2 q.2)]; rfl)
            clear c1 c2
            go_wp2
            exact ⟨⟨j + 1, p, by simp, by simp, HNY.out, .inl (by omega), by omega, HN7.out⟩, by simp [intOf]; omega⟩
        · have e1 : ((text[j].toNat : Int) == 13) = false := by
            rw [beq_eq_false_iff_ne]
            exact fun q => c1 (UInt8.toNat_inj.1 (by rw [show (13 : UInt8).toNat = 13 from rfl]; omega))
          have HNY := hid (show p = pairs (text.data.toList.take (j + 2)) by rw [HNX.out, if_neg (fun q => c1 q.1)]; rfl)
          clear c1
          go_wp2
          exact ⟨⟨j + 1, p, by simp, by simp, HNY.out, .inl (by omega), by omega, HN7.out⟩, by simp [intOf]; omega⟩
      · have hle : (nl : Int) ≤ (p : Int) + 1 := by
          have h1 := HP.out
          rw [List.take_of_length_le (by rw [Array.length_toList]; show text.size ≤ j + 1; omega)] at h1
          have := HNL.out
          omega
        have HN8 : Hid (New w wr) := hid (N7.out.trans HN7.out)
        go_wp2_with fail
        refine (HA.out _ (HN8.out)).mono ?_
        rintro e w99 ⟨rfl, n9⟩
        have N99 := hid n9
        clear n9
        go_wp2
        go_ret
        exact ⟨rfl, (HN8.out).trans N99.out⟩
  | true =>
    obtain ⟨hFe, hE0⟩ := HFV.out hvm
    subst hE0
    have hpf : psM F = m ∧ psN F = 0 ∧ psE F = 0 := by rw [hFe]; exact HPW.out hvm
    have hFs : F.size ≤ maxLen := by
      have := HWL.out hvm
      rw [hFe, mkB_size]
      unfold maxLen
      omega
    have HPF := hid (fun W (n : New w W) => HPS.out F W n hFs)
    rw [hpf.1, hpf.2.1, hpf.2.2] at HPF
    unfold msgV at HPF
    rw [hvm] at HVL HRV
    clear hvm hFe hpf hFs
    go_enter Tryd.func3, Tryd.ntmps3
    go_wp2_with fail
    refine (HFM.out _ HN.out).mono ?_
    rintro e w1 ⟨rfl, n1⟩
    have N1 : Hid (New w w1) := hid (HN.out.trans n1)
    have B1 := hid (New.blk n1 HB.out)
    clear n1 d0 d1 d2 dl
    have d0 := B1.out.cellv 0 rfl; have d1 := B1.out.cellv 1 rfl; have d2 := B1.out.cellv 2 rfl; have dl := B1.out.lt
    go_wp2_with fail
    refine (HRF.out _ N1.out).mono ?_
    rintro e w2 ⟨rfl, n2⟩
    have N2 : Hid (New w w2) := hid (N1.out.trans n2)
    have B2 := hid (New.blk n2 B1.out)
    clear n2 d0 d1 d2 dl
    have d0 := B2.out.cellv 0 rfl; have d1 := B2.out.cellv 1 rfl; have d2 := B2.out.cellv 2 rfl; have dl := B2.out.lt
    go_wp2_with fail
    go_region_held3 (fun w' => w'.cell? ⟨w.heap.size, 0, none⟩ = some (.int .i64 m.port) ∧ w'.cell? ⟨w.heap.size, 1, none⟩ = some (.slice a m.names.length c) ∧ w'.cell? ⟨w.heap.size, 2, none⟩ = some (.string m.cookie)) ((first | exact ⟨d0, d1, d2⟩ | exact ⟨j0, j1, j2⟩ | exact ⟨k0, k1, k2⟩ | go_keep)) ((first | (go_at_call 7; refine (HVL.out _ N2.out.drew).mono ?_; rintro e w3 ⟨rfl, n3⟩; have N3 : Hid (New w w3) := hid (N2.out.drew.trans n3); have B3 := hid (New.blk n3 B2.out.drew); clear n3; have k0 := B3.out.cellv 0 rfl; have k1 := B3.out.cellv 1 rfl; have k2 := B3.out.cellv 2 rfl) | (go_at_call 8; refine (HRV.out _ N3.out).mono ?_; rintro e w4 ⟨rfl, n4⟩; have N4 : Hid (New w w4) := hid (N3.out.trans n4); have B4 := hid (New.blk n4 B3.out); clear n4; have j0 := B4.out.cellv 0 rfl; have j1 := B4.out.cellv 1 rfl; have j2 := B4.out.cellv 2 rfl)))
    go_wp2_with fail
    refine (HPF.out _ N4.out).mono ?_
    rintro e w8 ⟨a8, c8, rfl, s8, n8⟩
    have N8 : Hid (New w w8) := hid (N4.out.trans n8)
    have S8 := hid s8
    have B8 := hid (New.blk n8 B4.out)
    clear n8 s8 d0 d1 d2 dl k0 k1 k2 j0 j1 j2
    have d0 := B8.out.cellv 0 rfl; have d1 := B8.out.cellv 1 rfl; have d2 := B8.out.cellv 2 rfl; have dl := B8.out.lt
    go_wp2_with fail
    refine (HSM.out a8 c8 _ (N8.out.alloc _) (S8.out.new ((Mod.refl _ _).alloc _))).mono ?_
    rintro e w9 ⟨rfl, n9⟩
    have N9 : Hid (New w w9) := hid ((N8.out.alloc _).trans n9)
    clear n9 d0 d1 d2 dl
    go_wp2_with fail
    refine (HPT.out _ (N9.out)).mono ?_
    rintro e w5 ⟨a5, c5, rfl, s5, n5⟩
    have N5 : Hid (New w w5) := hid ((N9.out).trans n5)
    have S5 := hid s5
    have B5 := hid (Blk.new w5 #[.int .i64 M.port, .slice a5 M.names.length c5, .string M.cookie] 24)
    clear n5 s5
    go_wp2_with fail
    refine (HRT.out _ (N5.out.alloc _)).mono ?_
    rintro e w6 ⟨a6, c6, rfl, s6, n6⟩
    have NA : Hid (New w5 w6) := hid (((Mod.refl _ w5).alloc (.cells #[.int .i64 M.port, .slice a5 M.names.length c5, .string M.cookie] 24) : New w5 _).trans n6)
    have N6 : Hid (New w w6) := hid (N5.out.trans NA.out)
    have S6 := hid s6
    have S56 := hid (S5.out.new NA.out)
    have B6 := hid (New.blk n6 B5.out)
    clear n6 s6
    have x0 := B6.out.cellv 0 rfl; have x1 := B6.out.cellv 1 rfl; have x2 := B6.out.cellv 2 rfl; have x3 := B6.out.lt
    go_wp2_with fail
    refine (same_eq M a5 a6 c5 c6 _ (S56.out.new ((Mod.refl _ _).alloc _)) (S6.out.new ((Mod.refl _ _).alloc _))).mono ?_
    rintro e w7 ⟨rfl, n7⟩
    have N7 : Hid (New w w7) := hid ((N6.out.alloc _).trans n7)
    clear n7 x0 x1 x2 x3
    have hnl0 : ¬ (nl : Int) < 0 := by omega
    go_wp2_with fail
    go_loopw [15, 16] (fun ls i wr => ∃ (j p : Nat), i = .int .i64 ((j : Int) + 1) ∧ ls = .int .i64 ((p : Int) + 1) ∧ p = pairs (text.data.toList.take (j + 1)) ∧ (j + 1 ≤ text.size ∨ j = 0) ∧ p ≤ j ∧ New w7 wr) (fun _ i _ => text.size - (intOf i).toNat)
    case atStart =>
      refine ⟨0, 0, rfl, rfl, ?_, .inr rfl, by omega, Mod.refl _ _⟩
      cases text.data.toList with
      | nil => rfl
      | cons x r => rfl
    case round =>
      obtain ⟨j, p, rfl, rfl, hp, hj, hpj, hn⟩ := hrel
      have HP := hid hp; have HN7 := hid hn
      clear hp hn
      have hjb : j ≤ 2000 := by omega
      have hpi : (j : Int) + 1 - 1 = (j : Int) := by omega
      by_cases hlt : j + 1 < text.size
      · have hltI : (j : Int) + 1 < (text.size : Int) := by omega
        have HNX := hid (show pairs (text.data.toList.take (j + 2)) = p + (if text[j] = 13 ∧ text[j + 1] = 10 then 1 else 0) by
          have hlen : text.data.toList.length = text.size := by rw [Array.length_toList]; rfl
          have q := pairs_next (l := text.data.toList) (j := j) (by omega)
          rw [← HP.out] at q
          exact q)
        have hj1 : (j : Int) < (text.size : Int) := by omega
        have htn : ((j : Int) + 1).toNat = j + 1 := by omega
        by_cases c1 : text[j] = 13
        · have e1 : ((text[j].toNat : Int) == 13) = true := by rw [c1]; rfl
          by_cases c2 : text[j + 1] = 10
          · have e2 : ((text[j + 1].toNat : Int) == 10) = true := by rw [c2]; rfl
            have HNY := hid (show p + 1 = pairs (text.data.toList.take (j + 2)) by rw [HNX.out, if_pos ⟨c1, c2⟩])
            clear c1 c2
            go_wp2
            exact ⟨⟨j + 1, p + 1, by simp, by simp, HNY.out, .inl (by omega), by omega, HN7.out⟩, by simp [intOf]; omega⟩
          · have e2 : ((text[j + 1].toNat : Int) == 10) = false := by
              rw [beq_eq_false_iff_ne]
              exact fun q => c2 (UInt8.toNat_inj.1 (by rw [show (10 : UInt8).toNat = 10 from rfl]; omega))
            have HNY := hid (show p = pairs (text.data.toList.take (j + 2)) by rw [HNX.out, if_neg (fun q => c2 q.2)]; rfl)
            clear c1 c2
            go_wp2
            exact ⟨⟨j + 1, p, by simp, by simp, HNY.out, .inl (by omega), by omega, HN7.out⟩, by simp [intOf]; omega⟩
        · have e1 : ((text[j].toNat : Int) == 13) = false := by
            rw [beq_eq_false_iff_ne]
            exact fun q => c1 (UInt8.toNat_inj.1 (by rw [show (13 : UInt8).toNat = 13 from rfl]; omega))
          have HNY := hid (show p = pairs (text.data.toList.take (j + 2)) by rw [HNX.out, if_neg (fun q => c1 q.1)]; rfl)
          clear c1
          go_wp2
          exact ⟨⟨j + 1, p, by simp, by simp, HNY.out, .inl (by omega), by omega, HN7.out⟩, by simp [intOf]; omega⟩
      · have hle : (nl : Int) ≤ (p : Int) + 1 := by
          have h1 := HP.out
          rw [List.take_of_length_le (by rw [Array.length_toList]; show text.size ≤ j + 1; omega)] at h1
          have := HNL.out
          omega
        have HN8 : Hid (New w wr) := hid (N7.out.trans HN7.out)
        go_wp2_with fail
        refine (HA.out _ (HN8.out)).mono ?_
        rintro e w99 ⟨rfl, n9⟩
        have N99 := hid n9
        clear n9
        go_wp2
        go_ret
        exact ⟨rfl, (HN8.out).trans N99.out⟩
theorem syn_type : Tryd.prog.globalNamed "strconv.ErrSyntax" = some 1 ∧ (Tryd.prog.globals[1]?).map (·.type) = some 47 := ⟨by kernel_rfl, by kernel_rfl⟩
theorem rng_type : Tryd.prog.globalNamed "strconv.ErrRange" = some 2 ∧ (Tryd.prog.globals[2]?).map (·.type) = some 47 := ⟨by kernel_rfl, by kernel_rfl⟩
theorem vars_ofL {x y z : String × DataW Unit} {r : List (String × DataW Unit)} {W : World} (h : laidMet Tryd.prog (x :: y :: ("internal/strconv.uint64pow10", Rows.laid_internal_strconv_uint64pow10) :: z :: ("strconv.ErrRange", Rows.laid_strconv_ErrRange) :: ("strconv.ErrSyntax", Rows.laid_strconv_ErrSyntax) :: r) W) (hs : W.ShapedOpen Tryd.prog) : VarsL W := by
  have h2 := h.tail.tail
  have h4 := h2.tail.tail
  have h5 := h4.tail
  have hm : ∃ m, W.cell? ⟨0, 0, none⟩ = some (.int .i64 m) :=
    cell_of_shapedOpen_int (g := 0) (t := 3) (zero := #[.int .i64 0]) hs (of_decide_eq_true (by kernel_rfl)) (by kernel_rfl) rfl (by kernel_rfl) (by kernel_rfl) Tryd.underlying3
  refine ⟨tab_head h2, ?_, ?_, hm, ?_⟩
  · exact laid_iface h5 syn_type.1 syn_type.2 Tryd.underlying47
  · exact laid_iface h4 rng_type.1 rng_type.2 Tryd.underlying47
  · obtain ⟨m, hm⟩ := hm
    exact World.block_lt_of_cell? _ _ hm
set_option maxRecDepth 100000 in
theorem lifted (os : Os) (started : os.Started) (H : Type) (enc : TypeId × Value → H) :
    ReturnsInHanded {} Tryd.checked os 3 .any (fun w args => (Rows.localTextsSpec.pre enc Tryd.prog Tryd.f3 [] false w args ∧ laidMetH Tryd.prog Rows.localTextsRow.laid w) ∧ sizedMet enc Tryd.prog Tryd.f3 (OpenSpec.ofChange Rows.localTextsSpec) false w args)
      (Rows.localTextsSpec.post enc Tryd.prog Tryd.f3 false true false false) := by
  refine returnsInHanded_full (C := Tryd.checked) (X := fun w _ => laidMetH Tryd.prog Rows.localTextsRow.laid w) (fun _ _ _ hh h => h.of_heap hh) ownT started (by kernel_rfl) Tryd.func3
    (ChangeSpec.witness_shaped (enc := enc) (C := Tryd.checked) (os := os) (X := fun w _ => laidMetH Tryd.prog Rows.localTextsRow.laid w) false (World.laidAll Tryd.prog os Rows.localTextsRow.laid) #[.agg #[.int .i64 0, .slice none 0 0, .string ⟨#[]⟩], .string ⟨#[]⟩] 8 (World.laidAll_os _ _ _) (World.shaped_of_ZipB (by kernel_rfl) (by kernel_rfl)) (by kernel_rfl) (by kernel_rfl) (by kernel_rfl) (by rw [MakeChecks.laidMetH_plain _ _ _ (by kernel_rfl)]; exact laidMet_laidAll _ (by kernel_rfl) (by kernel_rfl))) ?_
  intro W base args ds gs before hval0 hW _ hZ0 hL hsh _
  have hval : ∀ (j : Nat) t v, Tryd.f3.params[j]? = some t → args[j]? = some v → Value.okWide Tryd.prog W .any base t v := hval0
  have hZ : (DataW.weightsEach Tryd.prog (Tryd.f3.params.toList ++ Rows.localTextsSpec.plain.varTypes Tryd.prog) (ds ++ gs)).all (· ≤ reachBytes) = true := hZ0
  have hW' := hW
  obtain ⟨p, q, hA0, hV, rfl, hfz, hnd⟩ := hW
  have hA : DataW.TrodAll enc Tryd.prog W 0 (fun _ => true) true Tryd.f3.params.toList args.toList ds p := hA0
  rw [Tryd.params3] at hA hval hZ
  obtain ⟨v0, vs0, d0, ds0, p0, q0, hargs, rfl, rfl, h0, r0⟩ := trodAll_cons hA
  obtain ⟨v1, vs1, d1, ds1, p1, q1, rfl, rfl, rfl, h1, r1⟩ := trodAll_cons r0
  obtain ⟨rfl, rfl, rfl⟩ := trodAll_nil r1
  obtain rfl : args = #[v0, v1] := by cases args; simp_all
  obtain ⟨rfl, rfl⟩ := trodVars_none hV
  have k0 := h0
  have k1 := h1
  have lt0 : ∀ x ∈ p0, x.block < W.heap.size := by obtain ⟨m, hm⟩ := k0; exact DataW.trod_lt m _ _ _ hm
  have lt1 : ∀ x ∈ p1, x.block < W.heap.size := by obtain ⟨m, hm⟩ := k1; exact DataW.trod_lt m _ _ _ hm
  obtain ⟨m, a_m, c_m, rfl, h_m⟩ := open_called (hval 0 24 v0 rfl rfl) h0
  obtain ⟨text, rfl, -, -, h_text⟩ := Go.ChangeMaps.open_string Tryd.underlying9 (hval 1 9 v1 rfl rfl) h1
  clear hA0 hval0 hZ0
  refine (law_any m a_m c_m text W h_m (vars_ofL (by rw [MakeChecks.laidMetH_plain _ _ _ (by kernel_rfl)] at hL; exact hL) hsh) h_text).mono fun e W' ⟨he, hn⟩ => ?_
  subst he
  have bel : Below W.heap.size W W' := hn.below _ (Nat.le_refl _) (fun _ _ x => x)
  exact ⟨_, rfl, _, _, _, [], _, [], hW', trodAll_mk1 (shut_bool Tryd.underlying4 _), (trodAll_cons_mk (Below.trod laidOutT (by kernel_rfl) (of_decide_eq_true (by kernel_rfl)) k0 bel lt0) (trodAll_cons_mk (Below.trod laidOutT (by kernel_rfl) (of_decide_eq_true (by kernel_rfl)) k1 bel lt1) trodAll_mk0)), rfl, bel.frame _, fun h => by cases h⟩

theorem over : Rows.LocalTextsSaid :=
  OpenClaim.holds_of_wide 3 Tryd.f3 rfl rfl rfl rfl rfl rfl rfl ⟨rfl, rfl, rfl, rfl, rfl⟩ rfl rfl rfl rfl rfl (by kernel_rfl) Tryd.func3 (by kernel_rfl)
    (of_decide_eq_true (by kernel_rfl)) (by unfold Func.isWrapper; first | (rw [if_pos (by decide +kernel)]; kernel_rfl) | (rw [if_neg (by decide +kernel)]; exact ⟨rfl, rfl⟩))
    (fun os started H enc _ => lifted os started H enc)

theorem proved : Rows.LocalTextsCardSaid :=
  Claim7.holds_tied_plain_at .later [] [.data, .data, .data, .data, .sentinel, .sentinel, .pinned] true Rows.localTextsCard.stood.harness true
    over (fun _ h => by cases h) (by kernel_rfl) (fun _ h => by cases h) localTexts_row_tie rfl ⟨rfl, rfl⟩ (by kernel_rfl) rfl
    (fun f fn hf hfn => by
      obtain rfl : f = 3 := Option.some.inj ((show Tryd.prog.funcNamed "covey/coveylaw23.LocalTexts" = some 3 by kernel_rfl).symm.trans hf) |>.symm
      obtain rfl : fn = Tryd.f3 := (Option.some.inj (Tryd.func3.symm.trans hfn)).symm
      exact ⟨by kernel_rfl, fun j t ht => by
        rw [Tryd.params3] at ht
        have hm : t ∈ [24, 9] := by simpa using Array.mem_of_getElem? ht
        have hall : ([24, 9].all fun u => !Tryd.prog.wantsStandIn u) = true := by kernel_rfl
        exact (show Tryd.prog.wantsStandIn t = false by simpa using List.all_eq_true.1 hall t hm)⟩)
    (by kernel_rfl)
#print axioms proved
end Go.Proofs.YtnflhjagmngimaaDoor.localTexts
