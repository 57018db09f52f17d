/-
  Several texts in one, in their build order. The reference's runs of a magnet. Conditions: the reader lies as told; the text is small.
-/
import Derived.Test.YtbgmkplpolgebaaGreatDoorM40
import Derived.Test.YtbgmkplpolgebaaGreatDoorM41
namespace Go.Proofs.YtbgmkplpolgebaaGreatDoor
set_option linter.unusedSimpArgs false
set_option linter.unusedVariables false
open Go.RowKit Go.Shelf

theorem rep2_hit {z : UInt8} (hz : z = 67 ∨ z = 99) (r : List UInt8) : rep2 (37 :: 50 :: z :: r) = 44 :: rep2 r := by
  rw [rep2, if_pos ⟨rfl, rfl, hz⟩]
theorem rep2_no (x : UInt8) (t : List UInt8) (h : ¬ (x = 37 ∧ ∃ z u, t = 50 :: z :: u ∧ (z = 67 ∨ z = 99))) : rep2 (x :: t) = x :: rep2 t := by
  match t, h with
  | [], _ => rfl
  | [y], _ => rfl
  | y :: z :: r, h =>
    rw [rep2, if_neg]
    rintro ⟨h1, h2, h3⟩
    exact h ⟨h1, z, r, by rw [h2], h3⟩
set_option maxRecDepth 100000 in
set_option maxHeartbeats 8000000 in
theorem rso_part (B base : Nat) (m : MgV) (r : RdM) (s : ByteArray) (w : World) (h : RdIs 59 w B base m r) (hs : s.size ≤ 65536) (hbs : base ≤ w.heap.size) :
    Calls Tryz.prog 88 #[.pointer (some ⟨B, 0, none⟩), .string s] w fun e w' => PartR B base w (soM m s.data.toList) e w' := by
  have H := hid h
  have HON := hid h.only
  have HMM : Hid (∀ W, New w W → Mod (fun k => k = B ∨ base ≤ k) w W) := hid (fun W n => New.mod n)
  have hlen : s.data.toList.length = s.size := by rw [Array.length_toList]; rfl
  have hr2 := rep2_len s.data.toList
  have HRU := hid (fun W f (q : FieldOf 40 f) => rRuns_any 40 (mkB f) W q (by omega))
  obtain ⟨X, hX⟩ : ∃ X, X = soM m s.data.toList := ⟨_, rfl⟩
  rw [← hX]
  have HX1 := hid (fun q => hX.trans (soM_1 (m := m) (s := s.data.toList) q))
  have HX2 := hid (fun f q q2 => hX.trans (soM_2 (m := m) (s := s.data.toList) (f := f) q q2))
  have HX3 := hid (fun f q q2 q3 => hX.trans (soM_3 (m := m) (s := s.data.toList) (f := f) q q2 q3))
  have HX4 := hid (fun f q q2 q3 => hX.trans (soM_4 (m := m) (s := s.data.toList) (f := f) q q2 q3))
  clear h hX
  go_enter Tryz.func88, Tryz.ntmps88
  go_wp2_with fail
  go_loop [6, 5] (fun i c => ∃ (k : Nat) (acc : ByteArray), i = .int .i64 k ∧ c = .string acc ∧ k ≤ s.size ∧ acc.size ≤ k ∧ acc.data.toList ++ rep2 (s.data.toList.drop k) = rep2 s.data.toList) (fun i _ => s.size - (intOf i).toNat)
  case atStart => exact ⟨0, ⟨#[]⟩, rfl, rfl, by omega, by show 0 ≤ 0; omega, by rw [List.drop_zero]; rfl⟩
  case round =>
    obtain ⟨k, acc, rfl, rfl, hk, hac, ha⟩ := hrel
    have HA := hid ha
    clear ha
    by_cases hlt : k < s.size
    · have hltI : (k : Int) < (s.size : Int) := by omega
      have HD := hid (drop_at s hlt)
      have hk1 : IntKind.i64.wrap ((k : Int) + 1) = (k : Int) + 1 := by rw [IntKind.wrap_i64]; omega
      have hk2 : IntKind.i64.wrap ((k : Int) + 2) = (k : Int) + 2 := by rw [IntKind.wrap_i64]; omega
      have na : ((k : Int) + 1).toNat = k + 1 := by omega
      have pa : (0 : Int) ≤ (k : Int) + 1 := by omega
      have hle1 : (k : Int) + 1 ≤ (s.size : Int) := by omega
      by_cases c1 : s[k] = 37
      · have e1 : ((s[k].toNat : Int) == 37) = true := by rw [c1]; rfl
        by_cases c2 : k + 2 < s.size
        · have e2 : (k : Int) + 2 < (s.size : Int) := by omega
          have e2d : decide ((k : Int) + 2 < (s.size : Int)) = true := decide_eq_true e2
          have hb1 : k + 1 < s.size := by omega
          have hb1I : (k : Int) + 1 < (s.size : Int) := by omega
          have nb : ((k : Int) + 2).toNat = k + 2 := by omega
          have pb : (0 : Int) ≤ (k : Int) + 2 := by omega
          have HD1 := hid (drop_at s hb1); have HD2 := hid (drop_at s c2)
          by_cases c3 : s[k + 1] = 50
          · have e3 : ((s[k + 1].toNat : Int) == 50) = true := by rw [c3]; rfl
            by_cases c4 : s[k + 2] = 67
            · have e4 : ((s[k + 2].toNat : Int) == 67) = true := by rw [c4]; rfl
              have HST := hid (show acc.data.toList ++ [44] ++ rep2 (s.data.toList.drop (k + 3)) = rep2 s.data.toList by
                rw [← HA.out, HD.out, HD1.out, HD2.out, c1, c3, rep2_hit (.inl c4)]
                simp)
              clear c1 c3 c4
              have hs44 : (⟨#[44]⟩ : ByteArray).size = 1 := rfl
              have hk3 : IntKind.i64.wrap ((k : Int) + 2 + 1) = (k : Int) + 2 + 1 := by rw [IntKind.wrap_i64]; omega
              go_wp2_with fail
              exact ⟨⟨k + 3, acc ++ ⟨#[44]⟩, by simp; omega, rfl, by omega, by rw [ByteArray.size_append, hs44]; omega, by rw [ByteArray.data_append, Array.toList_append]; exact HST.out⟩, by simp [intOf]; omega⟩
            · have e4 : ((s[k + 2].toNat : Int) == 67) = false := by
                rw [beq_eq_false_iff_ne]
                exact fun e => c4 (UInt8.toNat_inj.1 (by rw [show (67 : UInt8).toNat = 67 from rfl]; omega))
              by_cases c5 : s[k + 2] = 99
              · have e5 : ((s[k + 2].toNat : Int) == 99) = true := by rw [c5]; rfl
                have HST := hid (show acc.data.toList ++ [44] ++ rep2 (s.data.toList.drop (k + 3)) = rep2 s.data.toList by
                  rw [← HA.out, HD.out, HD1.out, HD2.out, c1, c3, rep2_hit (.inr c5)]
                  simp)
                clear c1 c3 c4 c5
                have hs44 : (⟨#[44]⟩ : ByteArray).size = 1 := rfl
                have hk3 : IntKind.i64.wrap ((k : Int) + 2 + 1) = (k : Int) + 2 + 1 := by rw [IntKind.wrap_i64]; omega
                go_wp2_with fail
                exact ⟨⟨k + 3, acc ++ ⟨#[44]⟩, by simp; omega, rfl, by omega, by rw [ByteArray.size_append, hs44]; omega, by rw [ByteArray.data_append, Array.toList_append]; exact HST.out⟩, by simp [intOf]; omega⟩
              · have e5 : ((s[k + 2].toNat : Int) == 99) = false := by
                  rw [beq_eq_false_iff_ne]
                  exact fun e => c5 (UInt8.toNat_inj.1 (by rw [show (99 : UInt8).toNat = 99 from rfl]; omega))
                have HST := hid (show acc.data.toList ++ [s[k]] ++ rep2 (s.data.toList.drop (k + 1)) = rep2 s.data.toList by
                  rw [← HA.out, HD.out, rep2_no _ _ (fun ⟨_, z, u, q, hz⟩ => by rw [HD1.out, HD2.out] at q; injection q with q1 q2; injection q2 with q2 q3; rw [← q2] at hz; exact hz.elim c4 c5)]
                  simp)
                have hoc := one_cut s hlt
                have hss : (s.extract k (k + 1)).size = 1 := by
                  have : (s.extract k (k + 1)).data.toList.length = (s.extract k (k + 1)).size := by rw [Array.length_toList]; rfl
                  rw [← this, hoc]
                  rfl
                have HOC := hid hoc
                clear hoc
                clear c1 c3 c4 c5
                go_wp2_with fail
                exact ⟨⟨k + 1, acc ++ s.extract k (k + 1), by simp, rfl, by omega, by rw [ByteArray.size_append, hss]; omega, by rw [ByteArray.data_append, Array.toList_append, HOC.out]; exact HST.out⟩, by simp [intOf]; omega⟩
          · have e3 : ((s[k + 1].toNat : Int) == 50) = false := by
              rw [beq_eq_false_iff_ne]
              exact fun e => c3 (UInt8.toNat_inj.1 (by rw [show (50 : UInt8).toNat = 50 from rfl]; omega))
            have HST := hid (show acc.data.toList ++ [s[k]] ++ rep2 (s.data.toList.drop (k + 1)) = rep2 s.data.toList by
              rw [← HA.out, HD.out, rep2_no _ _ (fun ⟨_, z, u, q, hz⟩ => by rw [HD1.out] at q; injection q with q1 q2; exact c3 q1)]
              simp)
            have hoc := one_cut s hlt
            have hss : (s.extract k (k + 1)).size = 1 := by
              have : (s.extract k (k + 1)).data.toList.length = (s.extract k (k + 1)).size := by rw [Array.length_toList]; rfl
              rw [← this, hoc]
              rfl
            have HOC := hid hoc
            clear hoc
            clear c1 c3
            go_wp2_with fail
            exact ⟨⟨k + 1, acc ++ s.extract k (k + 1), by simp, rfl, by omega, by rw [ByteArray.size_append, hss]; omega, by rw [ByteArray.data_append, Array.toList_append, HOC.out]; exact HST.out⟩, by simp [intOf]; omega⟩
        · have e2 : ¬ (k : Int) + 2 < (s.size : Int) := by omega
          have e2d : decide ((k : Int) + 2 < (s.size : Int)) = false := decide_eq_false e2
          have HST := hid (show acc.data.toList ++ [s[k]] ++ rep2 (s.data.toList.drop (k + 1)) = rep2 s.data.toList by
            rw [← HA.out, HD.out, rep2_no _ _ (fun ⟨_, z, u, q, hz⟩ => by have := congrArg List.length q; rw [List.length_drop, hlen] at this; simp at this; omega)]
            simp)
          have hoc := one_cut s hlt
          have hss : (s.extract k (k + 1)).size = 1 := by
            have : (s.extract k (k + 1)).data.toList.length = (s.extract k (k + 1)).size := by rw [Array.length_toList]; rfl
            rw [← this, hoc]
            rfl
          have HOC := hid hoc
          clear hoc
          clear c1
          go_wp2_with fail
          exact ⟨⟨k + 1, acc ++ s.extract k (k + 1), by simp, rfl, by omega, by rw [ByteArray.size_append, hss]; omega, by rw [ByteArray.data_append, Array.toList_append, HOC.out]; exact HST.out⟩, by simp [intOf]; omega⟩
      · have e1 : ((s[k].toNat : Int) == 37) = false := by
          rw [beq_eq_false_iff_ne]
          exact fun e => c1 (UInt8.toNat_inj.1 (by rw [show (37 : UInt8).toNat = 37 from rfl]; omega))
        have HST := hid (show acc.data.toList ++ [s[k]] ++ rep2 (s.data.toList.drop (k + 1)) = rep2 s.data.toList by
          rw [← HA.out, HD.out, rep2_no _ _ (fun ⟨q, _⟩ => c1 q)]
          simp)
        have hoc := one_cut s hlt
        have hss : (s.extract k (k + 1)).size = 1 := by
          have : (s.extract k (k + 1)).data.toList.length = (s.extract k (k + 1)).size := by rw [Array.length_toList]; rfl
          rw [← this, hoc]
          rfl
        have HOC := hid hoc
        clear hoc
        clear c1
        go_wp2_with fail
        exact ⟨⟨k + 1, acc ++ s.extract k (k + 1), by simp, rfl, by omega, by rw [ByteArray.size_append, hss]; omega, by rw [ByteArray.data_append, Array.toList_append, HOC.out]; exact HST.out⟩, by simp [intOf]; omega⟩
    · have hltI : ¬ (k : Int) < (s.size : Int) := by omega
      have hR : acc.data.toList = rep2 s.data.toList := by
        rw [← HA.out, List.drop_of_length_le (by omega)]
        simp [rep2]
      rw [← hR] at HX1 HX2 HX3 HX4
      have hRs : acc.size ≤ 65536 := by omega
      have HBP := hid (fun W => rParse_any 40 acc W (by omega) hRs)
      have hal : acc.data.toList.length = acc.size := by rw [Array.length_toList]; rfl
      clear hR hr2
      by_cases h0 : acc.data.toList = []
      · have hte : (acc.toList == []) = true := by rw [beq_iff_eq, ByteArray.toList_eq]; exact h0
        have htI : acc.toList.isEmpty = true := by rw [ByteArray.toList_eq, h0]; rfl
        cases hb : bitsP 40 acc.data.toList with
        | none =>
          have HXN := hid (HX1.out hb)
          rw [hb, bpE] at HBP
          clear h0 hb hal
          go_wp2_with fail
          refine (HBP.out _).mono ?_
          rintro e w3 ⟨rfl, n3⟩
          have N3 := hid n3
          have H3 := hid (H.out.next n3)
          have b8 : w3.cell? ⟨B, 8, none⟩ = some (.bool r.only) := H3.out.blk.cellv 8 rfl
          rw [HON.out] at b8
          clear n3
          go_wp2_with fail
          go_ret
          exact PartR.no HXN.out (HMM.out _ N3.out)
        | some f =>
          have HXN := hid (HX2.out f hb h0)
          rw [hb, bpE] at HBP
          clear h0 hb hal
          go_wp2_with fail
          refine (HBP.out _).mono ?_
          rintro e w3 ⟨rfl, n3⟩
          have N3 := hid n3
          have H3 := hid (H.out.next n3)
          have b8 : w3.cell? ⟨B, 8, none⟩ = some (.bool r.only) := H3.out.blk.cellv 8 rfl
          rw [HON.out] at b8
          clear n3
          go_wp2_with fail
          go_ret
          exact PartR.no HXN.out (HMM.out _ N3.out)
      · have hte : (acc.toList == []) = false := by rw [beq_eq_false_iff_ne, ByteArray.toList_eq]; exact h0
        have htI : acc.toList.isEmpty = false := by
          rw [ByteArray.toList_eq]
          cases hq : acc.data.toList with
          | nil => exact absurd hq h0
          | cons x y => rfl
        cases hb : bitsP 40 acc.data.toList with
        | none =>
          have HXN := hid (HX1.out hb)
          rw [hb, bpE] at HBP
          clear h0 hb hal
          go_wp2_with fail
          refine (HBP.out _).mono ?_
          rintro e w3 ⟨rfl, n3⟩
          have N3 := hid n3
          have H3 := hid (H.out.next n3)
          have b8 : w3.cell? ⟨B, 8, none⟩ = some (.bool r.only) := H3.out.blk.cellv 8 rfl
          rw [HON.out] at b8
          clear n3
          go_wp2_with fail
          go_ret
          exact PartR.no HXN.out (HMM.out _ N3.out)
        | some f =>
          rw [hb, bpE] at HBP
          have HF := hid (bitsP_field hb)
          cases hon : m.only with
          | true =>
            have HXN := hid (HX3.out f hb h0 hon)
            rw [hon] at HON
            clear h0 hb hon hal
            go_wp2_with fail
            refine (HBP.out _).mono ?_
            rintro e w3 ⟨rfl, n3⟩
            have N3 := hid n3
            have H3 := hid (H.out.next n3)
            have b8 : w3.cell? ⟨B, 8, none⟩ = some (.bool r.only) := H3.out.blk.cellv 8 rfl
            rw [HON.out] at b8
            clear n3
            go_wp2_with fail
            go_ret
            exact PartR.no HXN.out (HMM.out _ N3.out)
          | false =>
            have HXN := hid (HX4.out f hb h0 hon)
            rw [hon] at HON
            clear h0 hb hon hal
            go_wp2_with fail
            refine (HBP.out _).mono ?_
            rintro e w3 ⟨rfl, n3⟩
            have N3 := hid n3
            have H3 := hid (H.out.next n3)
            have b8 : w3.cell? ⟨B, 8, none⟩ = some (.bool r.only) := H3.out.blk.cellv 8 rfl
            rw [HON.out] at b8
            clear n3
            have bl3 := H3.out.blk.lt
            have bf3 := H3.out.blk.frz 8
            go_wp2_with fail
            refine name_worldA (p := fun W => Calls _ _ _ W _) (fun W hW => ?_)
            have HRW : Hid (RdIs 59 W B base { m with only := true } { r with only := true }) := hid (by
              rw [hW]
              exact H3.out.turn ((Mod.refl _ _).set _ _ (.inl rfl)) ((H3.out.blk.set 8 (.bool true)).row rfl) rfl rfl rfl rfl rfl rfl rfl rfl H3.out.old H3.out.new H3.out.name H3.out.named rfl)
            have MW : Hid (Mod (fun k => k = B ∨ base ≤ k) w W) := hid (by
              rw [hW]
              exact (HMM.out _ N3.out).set _ _ (.inl (.inl rfl)))
            clear hW bl3 bf3 b8
            refine (HRU.out _ f HF.out).mono ?_
            rintro e w5 ⟨v, rfl, ho, n5⟩
            rw [show (mkB f).data.toList = f from rfl] at ho
            have hblk : ∀ k, v.ownBlock = some k → W.heap.size ≤ k := fun k q => (rowBlock ho q).1
            obtain ⟨va, vc, rfl, -⟩ := ho.form
            have hRd := RdIs.onPut HRW.out n5 (ho.base (Nat.le_trans hbs MW.out.size)) hblk
            have hB5 := New.blk n5 HRW.out.blk
            have d6 : w5.cell? ⟨B, 6, none⟩ = some r.on := hB5.cellv 6 rfl
            have bl := hB5.lt
            have bf := hB5.frz
            have HRD := hid hRd
            have M5 : Hid (Mod (fun k => k = B ∨ base ≤ k) w w5) := hid (MW.out.trans (New.mod n5))
            clear ho n5 hblk hRd hB5
            go_wp2
            go_ret
            exact PartR.yes HXN.out HRD.out (M5.out.set _ _ (.inl (.inl rfl)))
end Go.Proofs.YtbgmkplpolgebaaGreatDoor
