/-
  Several texts in one, in their build order. The walk of six's read (package addr). Conditions: the text is small; the library's variables are as laid.
-/
import Derived.Test.YtbgmkplpolgebaaGreatDoorM30
import Derived.Test.YtbgmkplpolgebaaGreatDoorM16
namespace Go.Proofs.YtbgmkplpolgebaaGreatDoor
set_option linter.unusedSimpArgs false
set_option linter.unusedVariables false
open Go.RowKit Go.Shelf

theorem read6_no {h : List UInt8} (c : ¬ (2 < h.length ∧ h.head? = some 91 ∧ h.getLast? = some 93)) : read6 h = none := by unfold read6; rw [if_neg c]
theorem read6_yes {h : List UInt8} (c : 2 < h.length ∧ h.head? = some 91 ∧ h.getLast? = some 93) : read6 h = (match numsA 16 65535 (pieces [] 58 (inner h)) with
  | none => none
  | some N => if N.length = 8 then some (unpairs N) else none) := by
  unfold read6
  rw [if_pos c]
  rfl
theorem head_at (s : ByteArray) (h : 0 < s.size) : s.data.toList.head? = some s[0] := by
  have := byte_at' s h
  rw [← List.head?_eq_getElem?] at this
  exact this
theorem last_at (s : ByteArray) (h : s.size - 1 < s.size) : s.data.toList.getLast? = some s[s.size - 1] := by
  have := byte_at' s h
  rw [List.getLast?_eq_getElem?]
  have hlen : s.data.toList.length = s.size := by rw [Array.length_toList]; rfl
  rw [hlen]
  exact this
theorem inner_ext (s : ByteArray) (h : 2 < s.size) : (s.extract 1 (s.size - 1)).data.toList = inner s.data.toList := by
  rw [ext_list]
  have hlen : s.data.toList.length = s.size := by rw [Array.length_toList]; rfl
  unfold inner
  rw [List.dropLast_eq_take, List.length_drop, hlen]
set_option maxRecDepth 100000 in
set_option maxHeartbeats 8000000 in
theorem read6_any (s : ByteArray) (w : World) (hs : s.size ≤ 65536) (hv : VarP w) : Calls Tryz.prog 241 #[.agg #[], .string s] w fun e w' => e = ipE (read6 s.data.toList) ∧ New w w' := by
  obtain ⟨i0, hi, hz0, hz1, hz2⟩ := info_parts info_byte
  have hlen : s.data.toList.length = s.size := by rw [Array.length_toList]; rfl
  obtain ⟨R, hR⟩ : ∃ R, R = read6 s.data.toList := ⟨_, rfl⟩
  rw [← hR]
  by_cases h2 : 2 < s.size
  · have h2I : (2 : Int) < (s.size : Int) := by omega
    have hp0 : 0 < s.size := by omega
    have hp1 : s.size - 1 < s.size := by omega
    have hnn : ((s.size : Int) - 1).toNat = s.size - 1 := by omega
    have hge : (0 : Int) ≤ (s.size : Int) - 1 := by omega
    by_cases h91 : s[0] = 91
    · have e0 : ((s[0].toNat : Int) == 91) = true := by rw [h91]; rfl
      by_cases h93 : s[s.size - 1] = 93
      · have e1 : ((s[s.size - 1].toNat : Int) == 93) = true := by rw [h93]; rfl
        rw [read6_yes ⟨by omega, by rw [head_at s hp0, h91], by rw [last_at s hp1, h93]⟩, ← inner_ext s h2] at hR
        clear h91 h93
        obtain ⟨T, hT⟩ : ∃ T, T = s.extract 1 (s.size - 1) := ⟨_, rfl⟩
        have hTs : T.size ≤ s.size := by rw [hT]; simp [ByteArray.size_extract]; omega
        rw [← hT] at hR
        have HTT := hid hT
        have HSP := hid (fun W (n : New w W) => split_c 58 T W (hv.new n) (by omega))
        have HV := hid (fun W (n : New w W) => hv.new n)
        have hTl : T.data.toList.length = T.size := by rw [Array.length_toList]; rfl
        have hPL := pieces_len [] 58 T.data.toList
        have hcl := List.count_le_length (l := T.data.toList) (a := 58)
        obtain ⟨P, hP⟩ : ∃ P, P = pieces [] 58 T.data.toList := ⟨_, rfl⟩
        have HSZ : Hid (∀ k (h : k < P.length), (mkB P[k]).size ≤ 65537) := hid (fun k h => by subst hP; have := pcs_size 58 T.data.toList h; omega)
        rw [← hP] at hR HSP hPL
        have HR := hid hR
        have hmap : (P.map mkB).length = P.length := List.length_map _
        have hPle : P.length ≤ 65537 := by omega
        have hPpos : 0 < P.length := by omega
        clear hR hP hv hPL hcl hTl
        go_enter Tryz.func241, Tryz.ntmps241
        go_wp2_with fail
        refine (aneed_yes 2 _).mono ?_
        rintro e w3 ⟨rfl, rfl⟩
        go_wp2_with fail
        rw [← HTT.out]
        refine (HSP.out _ (by first | exact Mod.refl _ _ | exact (Mod.refl _ _).alloc _)).mono ?_
        rintro e w1 ⟨rfl, hst, n1⟩
        simp only [World.size_alloc] at hst
        have HS1 := hid hst
        have N1 : Hid (New w w1) := hid (by first | exact n1 | exact ((Mod.refl _ _).alloc _).trans n1)
        clear hst n1 HSP
        rw [hmap]
        go_wp2_with fail
        go_loopw [33, 5] (fun i o wr => ∃ (k : Nat) (v : Value) (N : List Nat), i = .int .i64 k ∧ v = o ∧ k ≤ P.length ∧ numsA 16 65535 (P.take k) = some N ∧ N.length = k ∧ OwnY wr w1.heap.size v (unpairs N) ∧ New w1 wr) (fun i _ _ => P.length - (intOf i).toNat)
        case atStart => exact ⟨0, _, [], rfl, rfl, by omega, by rw [List.take_zero]; rfl, rfl, OwnY.nil _ _, Mod.refl _ _⟩
        case round =>
          obtain ⟨k, v, N, rfl, rfl, hk, hnum, hNk, ho, hn⟩ := hrel
          have HO := hid ho; have HN := hid hn; have HNUM := hid hnum
          clear ho hn hnum
          by_cases hlt : k < P.length
          · have hltI : (k : Int) < (P.length : Int) := by omega
            have HST := hid (HS1.out.new HN.out)
            obtain ⟨bb, oo, hbe, hbb, hcc⟩ := HST.out.get (by rw [hmap]; omega)
            injection hbe with hbe
            injection hbe with hb1 hb2
            subst hb1 hb2
            have g0 := hcc k (by rw [hmap]; exact hlt)
            rw [show (P.map mkB)[k]'(by rw [hmap]; exact hlt) = mkB P[k] from List.getElem_map _] at g0
            have hxs := HSZ.out k hlt
            have HNB := hid (fun W (n : New wr W) => number_any 16 65535 (.inr rfl) (by omega) (mkB P[k]) W (by omega) (HV.out W ((N1.out.trans HN.out).trans n)))
            have HALL := hid (take_all hlt)
            have HTK := hid (take_next hlt)
            rw [show (mkB P[k]).data.toList = P[k] from rfl] at HNB
            obtain ⟨X, hX⟩ : ∃ X, X = P[k] := ⟨_, rfl⟩
            rw [← hX] at g0 hxs HNB HALL HTK
            rw [Nat.zero_add] at g0
            clear hcc hX
            cases hna : numA 16 65535 X with
            | none =>
              rw [hna] at HNB
              have HRN : Hid (R = none) := hid (by rw [HR.out, HALL.out, numsA_bad HNUM.out hna])
              clear hna
              go_wp2_with fail
              refine (HNB.out _ (Mod.refl _ _)).mono ?_
              rintro e w3 ⟨rfl, n3⟩
              have N3 := hid ((N1.out.trans HN.out).trans n3)
              clear n3
              unfold numE
              go_wp2
              exact ⟨rfl, by rw [HRN.out]; rfl, N3.out⟩
            | some u =>
              rw [hna] at HNB
              have HNN := hid (numsA_next HNUM.out hna)
              rw [← HTK.out] at HNN
              have hu := (numA_some hna).1
              have hw1 : IntKind.u8.wrap ((u : Int) / 256) = ((UInt8.ofNat (u / 256)).toNat : Int) := by
                rw [IntWalk.u8_in _ (by omega), UInt8.toNat_ofNat']
                omega
              have hw2 : IntKind.u8.wrap (u : Int) = ((UInt8.ofNat (u % 256)).toNat : Int) := by
                rw [IntKind.wrap_u8, UInt8.toNat_ofNat']
                omega
              obtain ⟨D1, hD1⟩ : ∃ D, D = UInt8.ofNat (u / 256) := ⟨_, rfl⟩
              obtain ⟨D2, hD2⟩ : ∃ D, D = UInt8.ofNat (u % 256) := ⟨_, rfl⟩
              rw [← hD1] at hw1
              rw [← hD2] at hw2
              have HD := hid (show unpairs (N ++ [u]) = unpairs N ++ [D1, D2] by rw [unpairs_app, hD1, hD2]; rfl)
              have hUl := unpairs_len N
              rw [hNk] at hUl
              clear hD1 hD2
              clear hna
              go_wp2_with fail
              refine (HNB.out _ (Mod.refl _ _)).mono ?_
              rintro e w3 ⟨rfl, n3⟩
              have N3 := hid (HN.out.trans n3)
              have HO3 := hid (HO.out.new n3)
              have hs3 := n3.size
              have hs2 := HN.out.size
              clear n3
              unfold numE
              go_wp2_with (at_builtin; refine wpList_append_own_at _ rfl _ _ 42 rfl w1.heap.size 5 i0 _ 1 1 Tryz.underlying42 hi hz0 hz1 hz2 rfl (by decide) _ (unpairs N).length (byV (unpairs N)) rfl ?ow ⟨w3.heap.size, 0, none⟩ 2 2 [.int .u8 (D1.toNat : Int), .int .u8 (D2.toNat : Int)] rfl rfl ?hn ?h1 ?h63 ?hby ?hba ?_)
              case ow => exact HO3.out.new ((Mod.refl _ _).alloc _)
              case hn => exact two_new w3 _ _ _ rfl
              case h1 => intro u hu; simp at hu; rcases hu with rfl | rfl <;> rfl
              case h63 => unfold maxLen; omega
              case hby => omega
              case hba => simp; omega
              intro o' w' r' g' _ _
              have O' := hid (ownY_of (l := unpairs N) [D1, D2] (by rw [hUl]; exact r'))
              have N' := hid (new_grownY (HO3.out.new ((Mod.refl _ _).alloc _)) (Nat.le_refl _) (N3.out.alloc _) g')
              clear r' g'
              go_wp2_with fail
              exact ⟨⟨k + 1, _, N ++ [u], by simp, rfl, by omega, HNN.out, by simp; omega, by rw [HD.out]; exact O'.out, N'.out⟩, by simp [intOf]; omega⟩
          · obtain rfl : k = P.length := by omega
            have HNA := hid (show numsA 16 65535 P = some N by rw [← HNUM.out, List.take_length])
            have hNl : (unpairs N).length = 2 * P.length := by rw [unpairs_len, hNk]
            obtain ⟨form, hform⟩ : ∃ x, x = HO.out.form := ⟨_, rfl⟩
            clear hform
            have HT := hid (ownY_text HO.out)
            have hcv := HT.out
            rcases form with ⟨rfl, hnil⟩ | ⟨g, cap, rfl, hg1, hg2, hg3⟩
            · have : (unpairs N).length = 0 := by rw [hnil]; rfl
              omega
            · rw [hNl] at hcv
              rw [hNl]
              by_cases h4 : P.length = 8
              · have hd : (2 * (P.length : Int) == 16) = true := by rw [beq_iff_eq]; omega
                have HRX : Hid (R = some (unpairs N)) := hid (by rw [HR.out, HNA.out]; simp only; rw [if_pos (by omega)])
                rw [h4] at hcv
                go_wp2_with fail
                refine (aneed_yes 2 _).mono ?_
                rintro e w3 ⟨rfl, rfl⟩
                go_wp2
                go_ret
                exact ⟨by rw [HRX.out]; rfl, N1.out.trans HN.out⟩
              · have hd : (2 * (P.length : Int) == 16) = false := by rw [beq_eq_false_iff_ne]; omega
                have HRX : Hid (R = none) := hid (by rw [HR.out, HNA.out]; simp only; rw [if_neg (by omega)])
                go_wp2_with fail
                refine (aneed_no 2 _).mono ?_
                rintro e w3 ⟨rfl, rfl⟩
                go_wp2
                exact ⟨rfl, by rw [HRX.out]; rfl, N1.out.trans HN.out⟩
      · have e1 : ((s[s.size - 1].toNat : Int) == 93) = false := by
          rw [beq_eq_false_iff_ne]
          intro q
          exact h93 (UInt8.toNat_inj.1 (by show _ = 93; omega))
        have HRN : Hid (R = none) := hid (by rw [hR]; exact read6_no (fun q => h93 (by have := q.2.2; rw [last_at s hp1] at this; exact Option.some.inj this)))
        clear h91 h93 hR
        go_enter Tryz.func241, Tryz.ntmps241
        go_wp2_with fail
        refine (aneed_no 2 _).mono ?_
        rintro e w3 ⟨rfl, rfl⟩
        go_wp2
        exact ⟨rfl, by rw [HRN.out]; rfl, (Mod.refl _ _).alloc _⟩
    · have e0 : ((s[0].toNat : Int) == 91) = false := by
        rw [beq_eq_false_iff_ne]
        intro q
        exact h91 (UInt8.toNat_inj.1 (by show _ = 91; omega))
      have HRN : Hid (R = none) := hid (by rw [hR]; exact read6_no (fun q => h91 (by have := q.2.1; rw [head_at s hp0] at this; exact Option.some.inj this)))
      clear h91 hR
      go_enter Tryz.func241, Tryz.ntmps241
      go_wp2_with fail
      refine (aneed_no 2 _).mono ?_
      rintro e w3 ⟨rfl, rfl⟩
      go_wp2
      exact ⟨rfl, by rw [HRN.out]; rfl, (Mod.refl _ _).alloc _⟩
  · have h2I : ¬ (2 : Int) < (s.size : Int) := by omega
    have HRN : Hid (R = none) := hid (by rw [hR]; exact read6_no (fun q => h2 (by have := q.1; omega)))
    clear hR
    go_enter Tryz.func241, Tryz.ntmps241
    go_wp2_with fail
    refine (aneed_no 2 _).mono ?_
    rintro e w3 ⟨rfl, rfl⟩
    go_wp2
    exact ⟨rfl, by rw [HRN.out]; rfl, (Mod.refl _ _).alloc _⟩
end Go.Proofs.YtbgmkplpolgebaaGreatDoor
