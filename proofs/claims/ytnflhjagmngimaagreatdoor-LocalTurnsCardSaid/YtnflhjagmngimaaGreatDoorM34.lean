/-
  Several texts in one, in their build order. The walk of the law LocalTurns. Conditions: the names lie as told; the library's variables are laid.
-/
import Derived.Test.YtnflhjagmngimaaGreatDoorM25
import Derived.Test.YtnflhjagmngimaaGreatDoorM33
namespace Go.Proofs.YtnflhjagmngimaaGreatDoor
set_option linter.unusedSimpArgs false
set_option linter.unusedVariables false
open Go.RowKit Go.Shelf

set_option maxRecDepth 100000 in
set_option maxHeartbeats 8000000 in
theorem turns_any (seed : ByteArray) (every : Int) (a : Option Addr) (cn : Nat) (names : List ByteArray) (times : Int) (w : World) (hs : seed.size ≤ maxLen) (hn : StrsAt w a cn names) (hv : VarsL w) (ht : Tab w) :
    Calls Tryz.prog 3 #[.string seed, .int .i64 every, .slice a names.length cn, .int .i64 times] w fun e w' => e = .returned (.bool true) ∧ New w w' := by
  have HA := hid (fun W (n : New w W) => awake23_any W (ht.new n))
  have HV := hid hv; have HTB := hid ht; have HNM := hid hn
  have hr := hn.room; have hc := hn.cap
  unfold maxLen at hs hc
  clear hv ht hn
  by_cases g1 : 60 < names.length
  · have e1 : (60 : Int) < (names.length : Int) := by omega
    go_enter Tryz.func3, Tryz.ntmps3
    go_wp2_with fail
    refine (HA.out _ (Mod.refl _ w)).mono ?_
    rintro e w99 ⟨rfl, n9⟩
    have N99 := hid ((Mod.refl _ w).trans n9)
    clear n9
    go_wp2
    go_ret
    exact ⟨rfl, N99.out⟩
  have e1 : ¬ (60 : Int) < (names.length : Int) := by omega
  by_cases g2 : 40 < times
  · go_enter Tryz.func3, Tryz.ntmps3
    go_wp2_with fail
    refine (HA.out _ (Mod.refl _ w)).mono ?_
    rintro e w99 ⟨rfl, n9⟩
    have N99 := hid ((Mod.refl _ w).trans n9)
    clear n9
    go_wp2
    go_ret
    exact ⟨rfl, N99.out⟩
  by_cases g3 : 100 < seed.size
  · have e3 : (100 : Int) < (seed.size : Int) := by omega
    go_enter Tryz.func3, Tryz.ntmps3
    go_wp2_with fail
    refine (HA.out _ (Mod.refl _ w)).mono ?_
    rintro e w99 ⟨rfl, n9⟩
    have N99 := hid ((Mod.refl _ w).trans n9)
    clear n9
    go_wp2
    go_ret
    exact ⟨rfl, N99.out⟩
  have e3 : ¬ (100 : Int) < (seed.size : Int) := by omega
  by_cases g4 : newEr seed 1 every = 0
  rotate_left
  · have HN := hid (crNew_no seed 1 every w (by unfold maxLen; omega) g4)
    obtain ⟨E, hE⟩ : ∃ E, E = newEr seed 1 every := ⟨_, rfl⟩
    rw [← hE] at HN g4
    have e4 : (E == 0) = false := by rw [beq_eq_false_iff_ne]; exact g4
    have e5 : (E != 0) = true := by rw [bne, e4]; rfl
    clear hE g4
    go_enter Tryz.func3, Tryz.ntmps3
    go_wp2_with fail
    refine HN.out.mono ?_
    rintro e w1 ⟨rfl, rfl⟩
    go_wp2_with fail
    refine (HA.out _ (Mod.refl _ w1)).mono ?_
    rintro e w99 ⟨rfl, n9⟩
    have N99 := hid ((Mod.refl _ w1).trans n9)
    clear n9
    go_wp2
    go_ret
    exact ⟨rfl, N99.out⟩
  have HN := hid (crNew_ok seed 1 every w g4)
  have HFR := hid (FreshC.made g4)
  have hev : 1000 ≤ every ∧ every ≤ 1000000 := (newCr_ok g4).every
  clear g4
  go_enter Tryz.func3, Tryz.ntmps3
  go_wp2_with fail
  refine HN.out.mono ?_
  rintro e w1 ⟨B, M, H, rfl, hcr, n1, hB, hM, hH⟩
  have N1 := hid n1; have HCR := hid hcr
  obtain ⟨lB, lM, lH⟩ := hcr.lt
  clear n1 hcr
  go_wp2_with fail
  go_loopw [11, 52] (fun v i wr => ∃ (k : Nat) (c : CrV), i = .int .i64 k ∧ k ≤ names.length ∧ FreshC c every ∧ c.all.length ≤ k ∧ CrAt wr B M H c ∧ OwnT wr w1.heap.size v c.all ∧ Mod (fun j => j = M ∨ w1.heap.size ≤ j) w1 wr) (fun _ i _ => names.length - (intOf i).toNat)
  case atStart => exact ⟨0, _, rfl, by omega, HFR.out, Nat.le_refl _, HCR.out, OwnT.nil _ _, Mod.refl _ _⟩
  case round =>
    obtain ⟨k, c, rfl, hk, hfr, hlen, hcr, hown, hmd⟩ := hrel
    have HF := hid hfr; have HC := hid hcr; have HO := hid hown; have HM := hid hmd; have HLN := hid hlen
    have NW : Hid (New w wr) := hid (N1.out.trans' hmd (fun i hi q => by omega))
    clear hfr hcr hown hlen
    by_cases hlt : k < names.length
    · obtain ⟨bb, oo, rfl, hbb, hcc⟩ := (HNM.out.new NW.out).get (by omega)
      have g0 := hcc k hlt
      have hsm := HNM.out.small names[k] (List.getElem_mem _)
      obtain ⟨s, hs'⟩ : ∃ s, s = names[k] := ⟨_, rfl⟩
      rw [← hs'] at g0 hsm
      have hsm2 := hid hsm
      clear hcc hs' hmd
      by_cases ha : c.addE s false = 0
      · have HAD := hid (cAdd_yes B M H c s false wr HC.out hsm ha)
        have HF2 := hid (HF.out.add ha)
        clear ha hsm
        go_wp2_with fail
        refine HAD.out.mono ?_
        rintro e w2 ⟨rfl, hc2, hm2⟩
        have HC2 := hid hc2
        have HM2 := hid (HM.out.trans' hm2 (S := fun j => j = M ∨ w1.heap.size ≤ j) (fun i _ q => .inl q))
        have HO2 := hid (HO.out.mod hm2 (fun j hj _ q => by omega))
        have hz2 := HM2.out.size
        clear hc2 hm2
        obtain ⟨ao, co, rfl, hso, hbo⟩ := HO2.out.strs
        have hco := hso.cap
        unfold maxLen at hco
        have hln := HLN.out
        clear hso hbo
        obtain ⟨i1, hj, hy0, hy1, hy2⟩ := info_parts info_str
        go_wp2_with (at_builtin; refine wpList_append_own_at _ rfl _ _ 22 rfl w1.heap.size 9 i1 _ 1 16 Tryz.underlying22 hj hy0 hy1 hy2 rfl (by decide) (.slice ao c.all.length co) c.all.length (c.all.map Value.string) rfl ?ow ⟨w2.heap.size, 0, none⟩ 1 1 [.string s] rfl rfl ?hn ?h1 ?h63 ?hby ?hba ?_)
        case ow => exact (HO2.out.new ((Mod.refl _ _).alloc _)).row
        case hn =>
          intro j u hj
          rw [add_zero]
          match j, hj with
          | 0, hj => simp at hj; subst hj; exact (Blk.newAt (by simp)).cellv 0 rfl
        case h1 => intro u hu; simp at hu; subst hu; rfl
        case h63 => unfold maxLen; omega
        case hby => omega
        case hba => simp; omega
        intro o3 w4 r4 g4 _ _
        have O4 : Hid (OwnT w4 w1.heap.size o3 (c.all ++ [s])) := hid (ownT_of HO2.out.small hsm2.out r4)
        have M4 : Hid (Mod (fun k => w1.heap.size ≤ k) w2 w4) := hid (mod_grownT (HO2.out.new ((Mod.refl _ _).alloc _)) (Nat.le_refl _) ((Mod.refl _ _).alloc _) g4)
        clear r4 g4
        go_wp2
        go_roundw
        case rel => exact ⟨k + 1, c.addC s, by simp, by omega, HF2.out, by show (c.all ++ [s]).length ≤ k + 1; rw [List.length_append, List.length_singleton]; omega, HC2.out.mod M4.out (by omega) (by omega) (by omega), O4.out, HM2.out.trans' M4.out (fun i _ q => .inr q)⟩
        case measure => simp [intOf]; omega
      · have HAD := hid (cAdd_no B M H c s false wr HC.out hsm ha)
        obtain ⟨E, hE⟩ : ∃ E, E = c.addE s false := ⟨_, rfl⟩
        rw [← hE] at HAD ha
        have e4 : (E == 0) = false := by rw [beq_eq_false_iff_ne]; exact ha
        clear ha hE hsm
        go_wp2_with fail
        refine HAD.out.mono ?_
        rintro e w2 ⟨rfl, n2⟩
        have HM2 := hid (HM.out.trans' n2 (S := fun j => j = M ∨ w1.heap.size ≤ j) (fun i _ q => q.elim))
        have HC2 := hid (HC.out.new n2); have HO2 := hid (HO.out.new n2)
        clear n2
        go_wp2_with fail
        go_roundw
        case rel => exact ⟨k + 1, c, by simp, by omega, HF.out, by have := HLN.out; omega, HC2.out, HO2.out, HM2.out⟩
        case measure => simp [intOf]; omega
    · clear hmd
      obtain ⟨ao, co, rfl, hso, hbo⟩ := HO.out.strs
      have hco := hso.cap
      unfold maxLen at hco
      have hln := HLN.out
      have HSO := hid hso
      clear hso hbo
      by_cases hz : c.all.length = 0
      · have hz0 : ((c.all.length : Int) == 0) = true := by rw [beq_iff_eq]; omega
        have hnil : c.all = [] := List.eq_nil_of_length_eq_zero hz
        have HWN := hid (cWhen_any B M H c 0 wr HC.out HF.out.ok (by unfold CrV.atE; rw [HF.out.now]; decide))
        clear hz
        go_wp2_with fail
        refine HWN.out.mono ?_
        rintro e w2 (⟨-, rfl, n2⟩ | ⟨f, hf, -⟩)
        · have N2 := hid (NW.out.trans n2)
          clear n2 hnil
          go_wp2_with fail
          refine (HA.out _ (N2.out)).mono ?_
          rintro e w99 ⟨rfl, n9⟩
          have N99 := hid ((N2.out).trans n9)
          clear n9
          go_wp2
          go_ret
          exact ⟨rfl, N99.out⟩
        · rw [hnil] at hf
          cases hf
      · have hz0 : ((c.all.length : Int) == 0) = false := by rw [beq_eq_false_iff_ne]; omega
        have hne := hid hz
        clear hz
        go_wp2_with fail
        obtain ⟨wA, hwA⟩ : ∃ wA, wA = wr := ⟨_, rfl⟩
        subst hwA
        have hl60 : c.all.length ≤ 60 := by omega
        go_loopw [79, 16] (fun i nv wq => ∃ (k : Nat) (d : CrV) (now : Int), i = .int .i64 k ∧ nv = .int .i64 now ∧ (k = 0 ∨ (k : Int) ≤ times) ∧ CrAt wq B M H d ∧ CrOk d ∧ d.all = c.all ∧ d.every = every ∧ FairT d.all d.every d.last d.sent now ∧ d.now ≤ now ∧ (0 ≤ now ∧ now ≤ 1001000 * k) ∧ Mod (fun j => j = B ∨ j = M) wA wq) (fun i _ _ => (times - intOf i).toNat)
        case atStart => exact ⟨0, c, 0, rfl, rfl, .inl rfl, HC.out, HF.out.ok, rfl, HF.out.every, by rw [HF.out.sent]; exact FairT.begin HF.out.last, by rw [HF.out.now]; exact Int.le_refl _, ⟨Int.le_refl _, by simp⟩, Mod.refl _ _⟩
        case round =>
          obtain ⟨k2, d, now, rfl, rfl, hk2, hcd, hok, hall, hevd, hft, hdn, ⟨hn0, hn1⟩, hmd⟩ := hrel
          obtain ⟨wq, hwq⟩ : ∃ wq, wq = wr := ⟨_, rfl⟩
          subst hwq
          have HCD := hid hcd; have HOK := hid hok; have HALL := hid hall; have HEV := hid hevd; have HFT := hid hft; have HMD := hid hmd
          have NQ : Hid (New w wq) := hid (NW.out.trans' hmd (fun i hi q => by omega))
          clear hcd hall hft hmd
          by_cases hlt2 : (k2 : Int) < times
          · have hn2 : now ≤ 40040000 := by omega
            have hat : d.atE now = 0 := by unfold CrV.atE; rw [if_neg (by omega)]
            have HWN := hid (cWhen_any B M H d now wq HCD.out hok hat)
            have HDN := hid hdn
            clear hat hok hdn
            go_wp2_with fail
            refine HWN.out.mono ?_
            rintro e w2 (⟨q, -⟩ | ⟨f, hf, hmin, (⟨q, -⟩ | ⟨hle, rfl, hc2, hm2⟩)⟩)
            · rw [HALL.out] at q
              rw [q] at hne
              exact absurd rfl hne.out
            · have h1 := HOK.out.sent; have h2 := HFT.out.hi f hf
              have h3 := whenT_le (every := d.every) (sent := d.sent) (now := now) (x := d.last f) (by omega) (by have := HDN.out; omega) h2 hn0
              omega
            · have HFM := hid hf; have HMIN := hid hmin
              have h1 := HOK.out.sent; have h2 := HFT.out.hi f hf
              have h3 := whenT_le (every := d.every) (sent := d.sent) (now := now) (x := d.last f) (by omega) (by have := HDN.out; omega) h2 hn0
              have h4 := whenT_ge (every := d.every) (sent := d.sent) (now := now) (x := d.last f)
              have HAH := hid (fun q => whenT_ahead (every := d.every) (sent := d.sent) (now := now) (x := d.last f) q)
              have HDU := hid (whenT_due (every := d.every) (sent := d.sent) (now := now) (x := d.last f))
              obtain ⟨t, htt⟩ : ∃ t, t = whenT d.every d.sent now (d.last f) := ⟨_, rfl⟩
              have HTT := hid htt
              rw [← htt] at h3 h4 HAH HDU ⊢
              have HC2 := hid hc2
              have HOK2 := hid (HOK.out.when HDN.out (show now ≤ 1000000000 by omega))
              have HM2 : Hid (Mod (fun j => j = B ∨ j = M) wA w2) := hid (HMD.out.trans' hm2 (fun i _ q => .inl q))
              have hth : t ≤ 1000000000 := by omega
              clear hf hmin h1 h2 hc2 hm2 hle htt
              have HTAB := hid (fun W (q : Mod (fun j => j = B ∨ j = M) wA W) => HTB.out.new (NW.out.trans' q (fun i hi q => by omega)))
              by_cases htn : now < t
              · have hat1 : ({ d with now := now } : CrV).atE (t - 1) = 0 := by
                  show (if t - 1 < now ∨ 1000000000 < t - 1 then (7 : Int) else 0) = 0
                  rw [if_neg (by omega)]
                have HTL := hid (cTell_any B M H { d with now := now } (t - 1) w2 HC2.out HOK2.out hat1 (fun W q => HTAB.out W (HM2.out.trans q)))
                have hw1 : IntKind.i64.wrap (t - 1) = t - 1 := by rw [IntKind.wrap_i64]; omega
                clear hat1
                go_wp2_with fail
                refine HTL.out.mono ?_
                rintro e w3 hp
                obtain ⟨rfl, n3⟩ := tell_ahead hp (show 0 ≤ d.every by omega) HMIN.out (HAH.out htn)
                have HC3 := hid (HC2.out.new n3)
                have HM3 : Hid (Mod (fun j => j = B ∨ j = M) wA w3) := hid (HM2.out.trans' n3 (fun i _ q => q.elim))
                clear hp n3 hw1
                go_wp2_with fail
                have hat2 : ({ d with now := now } : CrV).atE t = 0 := by
                  show (if t < now ∨ 1000000000 < t then (7 : Int) else 0) = 0
                  rw [if_neg (by omega)]
                refine (cTell_any B M H { d with now := now } t w3 (HC3).out HOK2.out hat2 (fun W q => HTAB.out W ((HM3).out.trans q))).mono ?_
                rintro e w4 hp4
                obtain ⟨N, hvm, rfl, hc4, hm4, hin, hord⟩ := tell_in hp4 HOK2.out HFM.out HMIN.out HDU.out.1 HDU.out.2
                have HC4 := hid hc4
                have HOK4 := hid (HOK2.out.tell (show now ≤ t by omega) hth N)
                have HM4 : Hid (Mod (fun j => j = B ∨ j = M) wA w4) := hid ((HM3).out.trans hm4)
                have N4 : Hid (New w w4) := hid (NW.out.trans' HM4.out (fun i hi q => by omega))
                have HF4 : Hid (FairT d.all d.every (CrV.tellC { d with now := now } t N).last t t) := hid (by
                  have h := fair_turn (c := d) HFT.out HOK.out HFM.out HMIN.out hin (by rw [← HTT.out]; exact hord)
                  rw [← HTT.out] at h
                  exact h)
                have hps := ps_written hvm
                have hwl : (writtenL ⟨d.port, N, d.cookie⟩).length ≤ 1400 := written_len hvm
                have HPS := hid (rParse_any (mkB (writtenL ⟨d.port, N, d.cookie⟩)) w4 (HV.out.new N4.out) (by rw [mkB_size]; unfold maxLen; omega))
                rw [hps.1, hps.2.2] at HPS
                have hNn : ((N.length : Int) == 0) = false := by
                  rw [beq_eq_false_iff_ne]
                  obtain ⟨m, hm, -⟩ := hin
                  have := List.length_pos_of_mem hm
                  omega
                clear hp4 hvm hc4 hm4 hin hord hps hwl hat2
                obtain ⟨OUT, hOUT⟩ : ∃ OUT, OUT = mkB (writtenL ⟨d.port, N, d.cookie⟩) := ⟨_, rfl⟩
                rw [← hOUT] at HPS
                have HPS : Hid (Calls Tryz.prog 11 #[.string OUT] w4 fun e w' => ∃ a c, e = .returned (.tuple #[.agg #[.int .i64 d.port, .slice a N.length c, .string d.cookie], .int .i64 0]) ∧ StrsAt w' a c N ∧ New w4 w') := HPS
                show (match Ending.returned (.tuple #[.string (mkB (writtenL ⟨d.port, N, d.cookie⟩)), .int .i64 0]), w4 with | x, y => _)
                rw [← hOUT]
                clear hOUT
                go_wp2_with fail
                refine HPS.out.mono ?_
                rintro e w5 ⟨a5, c5, rfl, s5, n5⟩
                have N5 := hid n5
                clear s5 n5
                go_wp2_with fail
                refine name_worldC (p := fun W => Code.wp _ _ _ _ W) (fun w6 hw6 => ?_)
                have N6 : Hid (New w4 w6) := hid (by rw [hw6]; exact N5.out.alloc _)
                clear hw6
                go_loopw [132] (fun i wz => ∃ (j : Nat), i = .int .i64 j ∧ j ≤ c.all.length ∧ New w6 wz) (fun i _ => c.all.length - (intOf i).toNat)
                case atStart => exact ⟨0, rfl, by omega, Mod.refl _ _⟩
                case round =>
                  obtain ⟨j, rfl, hj, hnz⟩ := hrel
                  have HNZ := hid (N6.out.trans hnz)
                  have HN6 := hid hnz
                  clear hnz
                  by_cases hjl : j < c.all.length
                  · have hq := ((HO.out.mod HM4.out (fun i hi _ q => by omega)).new HNZ.out).strs
                    obtain ⟨a9, c9, e9, hs9, -⟩ := hq
                    injection e9 with e91 e92 e93
                    subst e91 e93
                    obtain ⟨b8, o8, rfl, hb8, hc8⟩ := hs9.get (by omega)
                    have g8 := hc8 j hjl
                    obtain ⟨n, hnm⟩ : ∃ n, n = c.all[j] := ⟨_, rfl⟩
                    have hmem : n ∈ d.all := by rw [HALL.out, hnm]; exact List.getElem_mem _
                    rw [← hnm] at g8
                    have hfe := FairT.end HF4.out hmem (by omega)
                    have hL := last_in HOK4.out (n := n) hmem
                    have HLS := hid (cLast_any B M H _ n wr (HC4.out.new HNZ.out) (by have := HOK.out.size n hmem; unfold maxLen; omega))
                    have hlb := HOK4.out.last n
                    obtain ⟨X, hX⟩ : ∃ X, X = (CrV.tellC { d with now := now } t N).last n := ⟨_, rfl⟩
                    obtain ⟨LE, hLE⟩ : ∃ LE, LE = (CrV.tellC { d with now := now } t N).lastE n := ⟨_, rfl⟩
                    obtain ⟨LR, hLR⟩ : ∃ LR, LR = (CrV.tellC { d with now := now } t N).lastR n := ⟨_, rfl⟩
                    rw [← hX] at hfe hL hlb
                    rw [← hLE] at hL HLS
                    rw [← hLR] at hL HLS
                    rw [HALL.out, HEV.out] at hfe
                    have hw5 : IntKind.i64.wrap (1000 * (c.all.length : Int)) = 1000 * (c.all.length : Int) := by rw [IntKind.wrap_i64]; omega
                    have hw6 : IntKind.i64.wrap (every + 1000 * (c.all.length : Int)) = every + 1000 * (c.all.length : Int) := by rw [IntKind.wrap_i64]; omega
                    clear hX hLE hLR hmem hnm hs9 hc8
                    rcases hL with ⟨hx0, rfl, rfl⟩ | ⟨hx0, rfl, rfl⟩
                    · have hw7 : IntKind.i64.wrap (t - LR) = t - LR := by rw [IntKind.wrap_i64]; omega
                      have hd1 : ¬ every + 1000 * (c.all.length : Int) < t - LR := by have := hfe.1 hx0; omega
                      clear hfe
                      go_wp2_with fail
                      refine HLS.out.mono ?_
                      rintro e w7 ⟨rfl, n7⟩
                      have N7 := hid (HN6.out.trans n7)
                      clear n7
                      go_wp2_with fail
                      go_roundw
                      case rel => exact ⟨j + 1, by simp, by omega, N7.out⟩
                      case measure => simp [intOf]; omega
                    · have hd1 : ¬ every + 1000 * (c.all.length : Int) < t := by have := hfe.2 hx0; omega
                      clear hfe
                      go_wp2_with fail
                      refine HLS.out.mono ?_
                      rintro e w7 ⟨rfl, n7⟩
                      have N7 := hid (HN6.out.trans n7)
                      clear n7
                      go_wp2_with fail
                      go_roundw
                      case rel => exact ⟨j + 1, by simp, by omega, N7.out⟩
                      case measure => simp [intOf]; omega
                  · have hev2 := HEV.out
                    go_wp2_with fail
                    exact ⟨⟨k2 + 1, CrV.tellC { d with now := now } t N, t, by simp, rfl, .inr (by omega), HC4.out.new HNZ.out, HOK4.out, HALL.out, HEV.out, HF4.out, Int.le_refl _, ⟨by omega, by push_cast; omega⟩, HM4.out.trans' HNZ.out (fun i _ q => q.elim)⟩, by simp [intOf]; omega⟩
              · go_wp2_with fail
                have hat2 : ({ d with now := now } : CrV).atE t = 0 := by
                  show (if t < now ∨ 1000000000 < t then (7 : Int) else 0) = 0
                  rw [if_neg (by omega)]
                refine (cTell_any B M H { d with now := now } t w2 (HC2).out HOK2.out hat2 (fun W q => HTAB.out W ((HM2).out.trans q))).mono ?_
                rintro e w4 hp4
                obtain ⟨N, hvm, rfl, hc4, hm4, hin, hord⟩ := tell_in hp4 HOK2.out HFM.out HMIN.out HDU.out.1 HDU.out.2
                have HC4 := hid hc4
                have HOK4 := hid (HOK2.out.tell (show now ≤ t by omega) hth N)
                have HM4 : Hid (Mod (fun j => j = B ∨ j = M) wA w4) := hid ((HM2).out.trans hm4)
                have N4 : Hid (New w w4) := hid (NW.out.trans' HM4.out (fun i hi q => by omega))
                have HF4 : Hid (FairT d.all d.every (CrV.tellC { d with now := now } t N).last t t) := hid (by
                  have h := fair_turn (c := d) HFT.out HOK.out HFM.out HMIN.out hin (by rw [← HTT.out]; exact hord)
                  rw [← HTT.out] at h
                  exact h)
                have hps := ps_written hvm
                have hwl : (writtenL ⟨d.port, N, d.cookie⟩).length ≤ 1400 := written_len hvm
                have HPS := hid (rParse_any (mkB (writtenL ⟨d.port, N, d.cookie⟩)) w4 (HV.out.new N4.out) (by rw [mkB_size]; unfold maxLen; omega))
                rw [hps.1, hps.2.2] at HPS
                have hNn : ((N.length : Int) == 0) = false := by
                  rw [beq_eq_false_iff_ne]
                  obtain ⟨m, hm, -⟩ := hin
                  have := List.length_pos_of_mem hm
                  omega
                clear hp4 hvm hc4 hm4 hin hord hps hwl hat2
                obtain ⟨OUT, hOUT⟩ : ∃ OUT, OUT = mkB (writtenL ⟨d.port, N, d.cookie⟩) := ⟨_, rfl⟩
                rw [← hOUT] at HPS
                have HPS : Hid (Calls Tryz.prog 11 #[.string OUT] w4 fun e w' => ∃ a c, e = .returned (.tuple #[.agg #[.int .i64 d.port, .slice a N.length c, .string d.cookie], .int .i64 0]) ∧ StrsAt w' a c N ∧ New w4 w') := HPS
                show (match Ending.returned (.tuple #[.string (mkB (writtenL ⟨d.port, N, d.cookie⟩)), .int .i64 0]), w4 with | x, y => _)
                rw [← hOUT]
                clear hOUT
                go_wp2_with fail
                refine HPS.out.mono ?_
                rintro e w5 ⟨a5, c5, rfl, s5, n5⟩
                have N5 := hid n5
                clear s5 n5
                go_wp2_with fail
                refine name_worldC (p := fun W => Code.wp _ _ _ _ W) (fun w6 hw6 => ?_)
                have N6 : Hid (New w4 w6) := hid (by rw [hw6]; exact N5.out.alloc _)
                clear hw6
                go_loopw [132] (fun i wz => ∃ (j : Nat), i = .int .i64 j ∧ j ≤ c.all.length ∧ New w6 wz) (fun i _ => c.all.length - (intOf i).toNat)
                case atStart => exact ⟨0, rfl, by omega, Mod.refl _ _⟩
                case round =>
                  obtain ⟨j, rfl, hj, hnz⟩ := hrel
                  have HNZ := hid (N6.out.trans hnz)
                  have HN6 := hid hnz
                  clear hnz
                  by_cases hjl : j < c.all.length
                  · have hq := ((HO.out.mod HM4.out (fun i hi _ q => by omega)).new HNZ.out).strs
                    obtain ⟨a9, c9, e9, hs9, -⟩ := hq
                    injection e9 with e91 e92 e93
                    subst e91 e93
                    obtain ⟨b8, o8, rfl, hb8, hc8⟩ := hs9.get (by omega)
                    have g8 := hc8 j hjl
                    obtain ⟨n, hnm⟩ : ∃ n, n = c.all[j] := ⟨_, rfl⟩
                    have hmem : n ∈ d.all := by rw [HALL.out, hnm]; exact List.getElem_mem _
                    rw [← hnm] at g8
                    have hfe := FairT.end HF4.out hmem (by omega)
                    have hL := last_in HOK4.out (n := n) hmem
                    have HLS := hid (cLast_any B M H _ n wr (HC4.out.new HNZ.out) (by have := HOK.out.size n hmem; unfold maxLen; omega))
                    have hlb := HOK4.out.last n
                    obtain ⟨X, hX⟩ : ∃ X, X = (CrV.tellC { d with now := now } t N).last n := ⟨_, rfl⟩
                    obtain ⟨LE, hLE⟩ : ∃ LE, LE = (CrV.tellC { d with now := now } t N).lastE n := ⟨_, rfl⟩
                    obtain ⟨LR, hLR⟩ : ∃ LR, LR = (CrV.tellC { d with now := now } t N).lastR n := ⟨_, rfl⟩
                    rw [← hX] at hfe hL hlb
                    rw [← hLE] at hL HLS
                    rw [← hLR] at hL HLS
                    rw [HALL.out, HEV.out] at hfe
                    have hw5 : IntKind.i64.wrap (1000 * (c.all.length : Int)) = 1000 * (c.all.length : Int) := by rw [IntKind.wrap_i64]; omega
                    have hw6 : IntKind.i64.wrap (every + 1000 * (c.all.length : Int)) = every + 1000 * (c.all.length : Int) := by rw [IntKind.wrap_i64]; omega
                    clear hX hLE hLR hmem hnm hs9 hc8
                    rcases hL with ⟨hx0, rfl, rfl⟩ | ⟨hx0, rfl, rfl⟩
                    · have hw7 : IntKind.i64.wrap (t - LR) = t - LR := by rw [IntKind.wrap_i64]; omega
                      have hd1 : ¬ every + 1000 * (c.all.length : Int) < t - LR := by have := hfe.1 hx0; omega
                      clear hfe
                      go_wp2_with fail
                      refine HLS.out.mono ?_
                      rintro e w7 ⟨rfl, n7⟩
                      have N7 := hid (HN6.out.trans n7)
                      clear n7
                      go_wp2_with fail
                      go_roundw
                      case rel => exact ⟨j + 1, by simp, by omega, N7.out⟩
                      case measure => simp [intOf]; omega
                    · have hd1 : ¬ every + 1000 * (c.all.length : Int) < t := by have := hfe.2 hx0; omega
                      clear hfe
                      go_wp2_with fail
                      refine HLS.out.mono ?_
                      rintro e w7 ⟨rfl, n7⟩
                      have N7 := hid (HN6.out.trans n7)
                      clear n7
                      go_wp2_with fail
                      go_roundw
                      case rel => exact ⟨j + 1, by simp, by omega, N7.out⟩
                      case measure => simp [intOf]; omega
                  · have hev2 := HEV.out
                    go_wp2_with fail
                    exact ⟨⟨k2 + 1, CrV.tellC { d with now := now } t N, t, by simp, rfl, .inr (by omega), HC4.out.new HNZ.out, HOK4.out, HALL.out, HEV.out, HF4.out, Int.le_refl _, ⟨by omega, by push_cast; omega⟩, HM4.out.trans' HNZ.out (fun i _ q => q.elim)⟩, by simp [intOf]; omega⟩
          · go_wp2_with fail
            refine (HA.out _ (NQ.out)).mono ?_
            rintro e w99 ⟨rfl, n9⟩
            have N99 := hid ((NQ.out).trans n9)
            clear n9
            go_wp2
            go_ret
            exact ⟨rfl, N99.out⟩
end Go.Proofs.YtnflhjagmngimaaGreatDoor
