/-
  Several texts in one, in their build order. The walks of Nibble and FromHex of the reference. Condition: the text is no longer than the bound.
-/
import Derived.Test.YtnflhjagmngimaaGreatDoorM20
namespace Go.Proofs.YtnflhjagmngimaaGreatDoor
set_option linter.unusedSimpArgs false
set_option linter.unusedVariables false
open Go.RowKit

theorem low_of (c : UInt8) (h : ∀ j, j < 16 → hexLow j ≠ c) : nib c = none := by
  cases hn : nib c with
  | none => rfl
  | some n =>
    obtain ⟨h1, h2⟩ := low_nib hn
    exact absurd h1 (h n h2)
set_option maxRecDepth 100000 in
set_option maxHeartbeats 1000000 in
theorem nibble_any (c : UInt8) (w : World) : Calls Tryz.prog 79 #[.int .u8 (c.toNat : Int)] w fun e w' => e = .returned (.int .i64 (nibI c)) ∧ w = w' := by
  obtain ⟨X, hX⟩ : ∃ X, X = nibI c := ⟨_, rfl⟩
  rw [← hX]
  have HX := hid hX
  clear hX
  go_enter Tryz.func79, Tryz.ntmps79
  go_wp2
  go_loopw [4] (fun i wr => ∃ k : Nat, i = .int .i64 k ∧ k ≤ 16 ∧ (∀ j, j < k → hexLow j ≠ c) ∧ wr = w) (fun i _ => 16 - (intOf i).toNat)
  case atStart => exact ⟨0, rfl, by omega, by omega, rfl⟩
  case round =>
    obtain ⟨k, rfl, hk, hb, rfl⟩ := hrel
    have HB := hid hb
    clear hb
    by_cases hlt : k < 16
    · have cK := lit_at hlt
      unfold hexLit at cK
      have kI : (k : Int) < 16 := by omega
      by_cases he : hexLow k = c
      · have hbI : (((hexLow k).toNat : Int) == (c.toNat : Int)) = true := by rw [he]; simp
        have HR := hid (show nibI c = (k : Int) from nibI_some (by rw [← he]; exact nib_low k hlt))
        clear he
        go_wp2
        go_ret
        exact ⟨ret_int (by rw [HX.out, HR.out]), rfl⟩
      · have hbI : (((hexLow k).toNat : Int) == (c.toNat : Int)) = false := by
          rw [beq_eq_false_iff_ne]
          exact fun q => he (UInt8.toNat_inj.1 (by omega))
        have HE := hid he
        clear he
        go_wp2
        exact ⟨⟨k + 1, by simp, by omega, fun j hj => by rcases Nat.lt_succ_iff_lt_or_eq.1 hj with h | h; exact HB.out j h; subst h; exact HE.out, trivial⟩, by simp [intOf]; omega⟩
    · have HR := hid (show nibI c = -1 from nibI_none (low_of c (fun j hj => HB.out j (by omega))))
      go_wp2
      go_ret
      exact ⟨ret_int (by rw [HX.out, HR.out]), rfl⟩
set_option maxRecDepth 100000 in
set_option maxHeartbeats 4000000 in
theorem rfromHex_any (t : ByteArray) (w : World) (hs : t.size ≤ 65536) : Calls Tryz.prog 46 #[.string t] w fun e w' => e = .returned (.tuple #[.string ⟨(unhexB t.data.toList).toArray⟩, .int .i64 (unhexE t.data.toList)]) ∧ New w w' := by
  have hlen : t.data.toList.length = t.size := by rw [Array.length_toList]; rfl
  obtain ⟨i0, hi, hz0, hz1, hz2⟩ := info_parts info_byte
  have hb1 : ¬ (65536 : Int) < (t.size : Int) := by omega
  by_cases hodd : t.size % 2 = 1
  · have HNO := hid (unhex_no (unhex_odd t.data.toList (by omega)))
    have hbI : ((t.size : Int) % 2 != 0) = true := by rw [bne_iff_ne]; omega
    clear hodd
    go_enter Tryz.func46, Tryz.ntmps46
    go_wp2
    go_ret2
    exact ⟨ret_hexE (by rw [HNO.out.1]) HNO.out.2.symm, Mod.refl _ _⟩
  obtain ⟨M, hM⟩ : ∃ M, t.size = 2 * M := ⟨t.size / 2, by omega⟩
  have hbI : ((t.size : Int) % 2 != 0) = false := by rw [bne_eq_false_iff_eq]; omega
  have hmI : (t.size : Int) / 2 = (M : Int) := by omega
  have HEV := hid (show t.data.toList.length % 2 = 0 by omega)
  have HM := hid hM
  clear hodd hM
  go_enter Tryz.func46, Tryz.ntmps46
  go_wp2_with (refine wpList_make_own _ rfl _ _ _ rfl w.heap.size 5 i0 (.int .u8 0) 1 Tryz.underlying100 hi hz0 hz1 .i64 .i64 _ M rfl rfl ?m1 ?m2 ?m3 ?m4 ?_)
  try case m1 => first | rfl | omega
  try case m2 => have := HM.out; first | omega | (rw [hz2]; omega)
  try case m3 => have := HM.out; unfold maxLen; omega
  try case m4 => exact Nat.le_refl _
  intro w1 r1 g1
  have HO1 : Hid (OwnY w1 w.heap.size (.slice (some ⟨w.heap.size, 0, none⟩) 0 M) []) := hid r1
  have HN1 : Hid (New w w1) := hid ⟨g1.os, g1.tape, g1.output, g1.size, fun k hk _ => g1.block k hk (by simp)⟩
  clear r1 g1 hmI
  go_wp2
  go_loopw [4, 5] (fun v i wr => ∃ (j : Nat) (o : Value), o = v ∧ i = .int .i64 (2 * (j : Int)) ∧ 2 * j ≤ t.size ∧ (∀ c ∈ t.data.toList.take (2 * j), (nib c).isSome = true) ∧ OwnY wr w.heap.size o (half (t.data.toList.take (2 * j))) ∧ New w wr) (fun _ i _ => t.size - (intOf i).toNat)
  case atStart => exact ⟨0, _, rfl, rfl, by omega, by simp, HO1.out, HN1.out⟩
  case round =>
    clear HO1 HN1
    obtain ⟨j, o, rfl, rfl, hk, hnb, ho, hn⟩ := hrel
    have HO := hid ho; have HN := hid hn; have HNB := hid hnb
    clear ho hn hnb
    by_cases hlt : 2 * j < t.size
    · obtain ⟨K, hK⟩ : ∃ K, K = 2 * j := ⟨_, rfl⟩
      have hKI : 2 * (j : Int) = (K : Int) := by omega
      have hlt1 : K + 1 < t.size := by have := HM.out; omega
      have hlt0 : K < t.size := by omega
      have HKE := hid (show K % 2 = 0 by omega)
      have hJM := hid (show (j : Int) + 1 ≤ 40000 ∧ 2 * (j + 1) = K + 2 by omega)
      rw [← hK] at HNB HO
      rw [hKI]
      have HKJ := hid hK
      clear hlt hk hK
      have hltI : (K : Int) < (t.size : Int) := by omega
      have hltI1 : (K : Int) + 1 < (t.size : Int) := by omega
      have kp : (0 : Int) ≤ (K : Int) := by omega
      have kp1 : (0 : Int) ≤ (K : Int) + 1 := by omega
      have kw : IntKind.i64.wrap ((K : Int) + 1) = (K : Int) + 1 := IntWalk.i64_in _ (by omega)
      have kn : ((K : Int) + 1).toNat = K + 1 := by omega
      have HNI := hid (fun c W => nibble_any c W)
      have hmem : t[K] ∈ t.data.toList := by rw [← byteAtL t hlt0]; exact List.getElem_mem _
      have hmem1 : t[K + 1] ∈ t.data.toList := by rw [← byteAtL t hlt1]; exact List.getElem_mem _
      cases hna : nib t[K] with
      | none =>
        have hx0 : decide (nibI t[K] < 0) = true := by rw [nibI_none hna]; rfl
        have HNO := hid (unhex_no (unhex_bad t.data.toList _ hmem hna))
        clear hmem hmem1 hna
        go_wp2
        go_region_held3 (fun w' => True) (trivial) ((go_at_call 79; refine (HNI.out _ _).mono ?_; rintro e w2 ⟨rfl, rfl⟩))
        all_goals go_wp2
        all_goals go_ret2
        all_goals exact ⟨ret_hexE (by rw [HNO.out.1]) HNO.out.2.symm, HN.out.drew⟩
      | some x =>
        have hxe := nibI_some hna
        have hx16 := nib_lt hna
        have hxd : nibD t[K] = x := by unfold nibD; rw [hna]; rfl
        have hx0 : decide ((x : Int) < 0) = false := by rw [decide_eq_false_iff_not]; omega
        cases hnbb : nib t[K + 1] with
        | none =>
          have hye := nibI_none hnbb
          have HNO := hid (unhex_no (unhex_bad t.data.toList _ hmem1 hnbb))
          clear hmem hmem1 hna hnbb
          go_wp2
          go_region_held3 (fun w' => True) (trivial) ((go_at_call 79; refine (HNI.out _ _).mono ?_; rintro e w2 ⟨rfl, rfl⟩))
          all_goals go_wp2
          all_goals go_ret2
          all_goals exact ⟨ret_hexE (by rw [HNO.out.1]) HNO.out.2.symm, HN.out.drew⟩
        | some y =>
          have hye := nibI_some hnbb
          have hy16 := nib_lt hnbb
          have hyd : nibD t[K + 1] = y := by unfold nibD; rw [hnbb]; rfl
          have hy0 : decide ((y : Int) < 0) = false := by rw [decide_eq_false_iff_not]; omega
          have HTK := hid (show t.data.toList.take (K + 2) = t.data.toList.take K ++ [t[K], t[K + 1]] by
            rw [show K + 2 = K + 1 + 1 from rfl, List.take_add_one, List.getElem?_eq_getElem (by omega), byteAtL t hlt1, List.take_add_one, List.getElem?_eq_getElem (by omega), byteAtL t hlt0, List.append_assoc]
            rfl)
          have HNB2 : Hid (∀ c ∈ t.data.toList.take (K + 2), (nib c).isSome = true) := hid (fun c hc => by
            rw [HTK.out] at hc
            rcases List.mem_append.1 hc with q | q
            · exact HNB.out c q
            · simp only [List.mem_cons, List.not_mem_nil, or_false] at q
              rcases q with rfl | rfl
              · rw [hna]; rfl
              · rw [hnbb]; rfl)
          have HNX := hid (show half (t.data.toList.take (K + 2)) = half (t.data.toList.take K) ++ [UInt8.ofNat (16 * x + y)] by
            rw [HTK.out, half_two _ _ _ (by have := HKE.out; rw [List.length_take]; omega), hxd, hyd])
          have HV := hid (mk_both hx16 hy16)
          have hl1 : (half (t.data.toList.take K)).length ≤ 70000 := by rw [half_len, List.length_take]; omega
          have h63 : (half (t.data.toList.take K)).length + 1 ≤ maxLen := by unfold maxLen; omega
          have hby : ((half (t.data.toList.take K)).length + 1) * 1 ≤ 140737488355328 := by omega
          clear hmem hmem1 hna hnbb hxd hyd
          go_wp2
          go_region_held3 (fun w' => True) (trivial) ((go_at_call 79; refine (HNI.out _ _).mono ?_; rintro e w2 ⟨rfl, rfl⟩))
          all_goals go_wp2_with (at_builtin; refine wpList_append_own_at _ rfl _ _ 100 rfl w.heap.size 5 i0 (.int .u8 0) 1 1 Tryz.underlying100 hi hz0 hz1 hz2 rfl (by decide) o _ _ rfl (HO.out.new (((Mod.refl _ _).drew).alloc _)) ⟨wr.heap.size, 0, none⟩ 1 1 [.int .u8 (16 * (x : Int) + (y : Int))] rfl rfl (World.news_of_block (heap_alloc_new _ _)) (by intro u hu; simp at hu; subst hu; rfl) h63 hby (by have := HN.out.size; simp; omega) ?_)
          all_goals intro o2 w2 r2 g2 _ l2
          all_goals have HO2 : Hid (OwnY w2 w.heap.size o2 (half (t.data.toList.take (K + 2)))) := hid (by
            rw [HNX.out]
            refine ownY_of _ ?_
            rw [← HV.out] at r2
            exact r2)
          all_goals have HN2' : Hid (New w w2) := hid (new_grownY (HO.out.new (((Mod.refl _ _).drew).alloc _)) (Nat.le_refl _) ((HN.out.drew).alloc _) g2)
          all_goals clear r2 g2 l2
          all_goals go_wp2
          all_goals exact ⟨⟨j + 1, _, rfl, congrArg (Value.int .i64) (by have := HKJ.out; omega), by have := HKJ.out; have := HM.out; omega, by rw [hJM.out.2]; exact HNB2.out, by rw [hJM.out.2]; exact HO2.out, HN2'.out⟩, by simp [intOf]; omega⟩
    · have hkl : t.data.toList.take (2 * j) = t.data.toList := List.take_of_length_le (by omega)
      rw [hkl] at HO HNB
      have HY := hid (unhex_yes (unhex_half _ HEV.out HNB.out))
      have HT := hid (ownY_text HO.out)
      have hcv := HT.out
      have hjI : ¬ 2 * (j : Int) < (t.size : Int) := by omega
      clear hkl
      go_wp2
      go_ret2
      exact ⟨ret_hexE (by rw [HY.out.1]) HY.out.2.symm, HN.out⟩
end Go.Proofs.YtnflhjagmngimaaGreatDoor
