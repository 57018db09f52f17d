/-
  FilesTexts returns true, for every input, its arguments as they were; the tables and errors of the library tied to the program's text. No condition but the row's own ('laid').
-/
import Derived.Test.YtnccfikimmolgaaGreatDoorM1
import Derived.Test.YtnccfikimmolgaaGreatDoorM6
import Derived.Test.YtnccfikimmolgaaGreatDoorM32
import Derived.Test.YtnccfikimmolgaaGreatDoorM39
import Derived.Test.YtnccfikimmolgaaGreatDoorM43
import Derived.Test.YtnccfikimmolgaaGreatDoorM27
import Derived.Test.YtnccfikimmolgaaGreatDoorTie
import Derived.Test.YtnccfikimmolgaaGreatDoorCards
import Derived.SevenTiedAt
namespace Go.Proofs.YtnccfikimmolgaaGreatDoor.filesTexts
set_option linter.unusedSimpArgs false
set_option linter.unusedVariables false
open Go.ChangeShapes Go.WideShapes Go.ChangeAt Go.RowKit Go.Deep

set_option maxRecDepth 100000 in
set_option maxHeartbeats 2000000 in
theorem eqints_any (a b : Option Addr) (c d : Nat) (S : List Int) (w : World) (h : IntsAt w a c S) (k : IntsAt w b d S) :
    Calls Tryz.prog 13 #[.slice a S.length c, .slice b S.length d] w fun e w' => e = .returned (.bool true) ∧ New w w' := by
  have hr := h.room; have hc := h.cap; have kr := k.room; have kc := k.cap
  unfold maxLen at hc kc
  have HI := hid h; have HK := hid k
  clear h k
  go_enter Tryz.func13, Tryz.ntmps13
  go_wp2
  go_loopw [13] (fun i wr => ∃ (j : Nat), i = .int .i64 j ∧ j ≤ S.length ∧ New w wr) (fun i _ => S.length - (intOf i).toNat)
  case atStart => exact ⟨0, rfl, by omega, Mod.refl _ _⟩
  case round =>
    obtain ⟨j, rfl, hj, hn⟩ := hrel
    have HN := hid hn
    by_cases hlt : j < S.length
    · obtain ⟨b1, o1, rfl, hb1, hc1⟩ := HI.out.get (by omega)
      obtain ⟨b2, o2, rfl, hb2, hc2⟩ := HK.out.get (by omega)
      have g0 := hn.cellv (hc1 j hlt)
      have g1 := hn.cellv (hc2 j hlt)
      obtain ⟨x, hx⟩ : ∃ x, x = S[j] := ⟨_, rfl⟩
      rw [← hx] at g0 g1
      have hbw1 : b1 < wr.heap.size := by have := hn.size; omega
      have hbw2 : b2 < wr.heap.size := by have := hn.size; omega
      have hjI : (j : Int) < (S.length : Int) := by omega
      clear hc1 hc2 hx hn
      go_wp2
      go_region_held3 (fun w' => w'.cell? ⟨b1, o1 + j, none⟩ = some (.int .i64 x) ∧ w'.cell? ⟨b2, o2 + j, none⟩ = some (.int .i64 x)) (go_keep) (fail)
      go_wp2
      go_roundw
      case rel => exact ⟨j + 1, by simp, by omega, HN.out.drew⟩
      case measure => simp [intOf]; omega
    · clear hn
      go_wp2
      go_ret
      exact ⟨rfl, HN.out⟩
/-- Both readings of a text. -/
theorem parse_both (t : ByteArray) (w : World) (hv : Vars w) (ht : t.size ≤ 3000 ∨ 65536 < t.size) : ∃ (L : List FileV) (N E : Int), (∀ W, New w W → Calls Tryz.prog 20 #[.string t] W fun e w' => ∃ a c, e = .returned (.tuple #[.slice a L.length c, .int .i64 N, .int .i64 E]) ∧ FilesAt w' a c L ∧ New W w') ∧
    (∀ W, New w W → Calls Tryz.prog 21 #[.string t] W fun e w' => ∃ a c, e = .returned (.tuple #[.slice a L.length c, .int .i64 N, .int .i64 E]) ∧ FilesAt w' a c L ∧ New W w') := by
  rcases ht with h | h
  · refine ⟨parseL t.data.toList, parseLine t.data.toList, parseErr t.data.toList, fun W n => ?_, fun W n => rParse_any t W (by omega)⟩
    have hl : t.data.toList.length = t.size := by rw [Array.length_toList]; rfl
    have := parse_any t.data.toList W (hv.new n) (by omega)
    rw [data_mkB] at this
    exact this
  · have hz : ∀ w', FilesAt w' none 0 [] := fun w' => ⟨by simp, by decide, .inl rfl⟩
    refine ⟨[], 0, 3, fun W n => (parse_long t W h).mono ?_, fun W n => (rParse_long t W h).mono ?_⟩ <;>
    · rintro e w' ⟨rfl, hn⟩
      exact ⟨none, 0, rfl, hz w', hn⟩
set_option maxRecDepth 100000 in
set_option maxHeartbeats 8000000 in
theorem law_any (a : Option Addr) (c : Nat) (l : List FileV) (path text : ByteArray) (w : World) (h : FilesAt w a c l) (hs : ∀ f ∈ l, ∀ s ∈ f.path, s.size ≤ 140737488355328) (hv : Vars w) (hp : path.size ≤ maxLen) (ht : text.size ≤ maxLen) :
    Calls Tryz.prog 4 #[.slice a l.length c, .string path, .string text] w fun e w' => e = .returned (.bool true) ∧ New w w' := by
  unfold maxLen at hp ht
  have HL := hid (light_told a c l w h hs)
  have HA := hid (fun W (n : New w W) => awake_any W (hv.new n).tab)
  have HF := hid (fun W (n : New w W) => Find_any a c l path W (h.new n) (hv.new n).tab)
  have HRF := hid (fun W (n : New w W) => rFind_any a c l path W (h.new n))
  have HD := hid (fun q W (n : New w W) => Folder_any a c l path W (h.new n) (hv.new n).tab q)
  have HRD := hid (fun q W (n : New w W) => rFolder_any a c l path W (h.new n) q)
  have HPB := hid (fun q => parse_both text w hv q)
  have HO := hid (fun W (n : New w W) => Format_any a c l W (h.new n) (hv.new n).tab)
  have HRO := hid (fun W (n : New w W) => rFormat_any a c l W (h.new n))
  have HVA := hid (fun W (n : New w W) => valid_any a c l W (h.new n) (hv.new n).tab)
  have HRT := hid (fun q => round_trip (l := l) q)
  have HPP := hid (fun s q W (n : New w W) => parse_any s W (hv.new n) q)
  have HEQ := hid (fun a b c d (S : List Int) W (h : IntsAt W a c S) (k : IntsAt W b d S) => eqints_any a b c d S W h k)
  have HSS := hid (fun a b c d (S : List FileV) W (h : FilesAt W a c S) (k : FilesAt W b d S) => sameB_self S ▸ rSame_any a b c d S S W h k)
  have HLF := hid h
  clear h hs hv
  go_enter Tryz.func4, Tryz.ntmps4
  go_wp2_with fail
  refine HL.out.mono ?_
  intro e w1 hlo
  obtain ⟨v, rfl, hlt, n1⟩ := hlo
  have N1 := hid n1
  clear n1 HL
  cases v with
  | false =>
    clear hlt
    go_wp2_with fail
    refine (HA.out _ N1.out).mono ?_
    rintro e w99 ⟨rfl, n9⟩
    have N99 := hid n9
    clear n9
    go_wp2
    go_ret
    exact ⟨rfl, (N1.out).trans N99.out⟩
  | true =>
    obtain ⟨l1, l2, l3⟩ := hlt rfl
    have HPS : Hid (∀ f ∈ l, (joinB f.path).size ≤ 140737488355328 ∧ f.path.length ≤ 140737488355328) := hid (fun f hf => by
      have h1 := l1 f hf
      have h2 := allSum_mem hf
      have h3 := join_le f.path
      constructor <;> omega)
    clear hlt l1 l2
    by_cases h400 : 400 < path.size
    · go_wp2_with fail
      refine (HA.out _ N1.out).mono ?_
      rintro e w99 ⟨rfl, n9⟩
      have N99 := hid n9
      clear n9
      go_wp2
      go_ret
      exact ⟨rfl, (N1.out).trans N99.out⟩
    have hq : path.size ≤ 400 := by omega
    by_cases h3000 : 3000 < text.size ∧ text.size ≤ 65536
    · obtain ⟨q1, q2⟩ := h3000
      go_wp2_with fail
      refine (HA.out _ N1.out).mono ?_
      rintro e w99 ⟨rfl, n9⟩
      have N99 := hid n9
      clear n9
      go_wp2
      go_ret
      exact ⟨rfl, (N1.out).trans N99.out⟩
    have htx : text.size ≤ 3000 ∨ 65536 < text.size := by omega
    clear h3000
    obtain ⟨L, N, E, hpa, hpb⟩ := HPB.out htx
    have HPA := hid hpa; have HPR := hid hpb
    have h12 : decide ((3000 : Int) < (text.size : Int)) = false ∨ (decide ((3000 : Int) < (text.size : Int)) = true ∧ decide ((text.size : Int) ≤ 65536) = false) := by
      rcases htx with q | q
      · exact .inl (decide_eq_false (by omega))
      · exact .inr ⟨decide_eq_true (by omega), decide_eq_false (by omega)⟩
    clear hpa hpb htx HPB
    have hb4 : decide ((400 : Int) < (path.size : Int)) = false := decide_eq_false (by omega)
    obtain ⟨FI, hFI⟩ : ∃ x, x = findI l path := ⟨_, rfl⟩
    obtain ⟨FE, hFE⟩ : ∃ x, x = findErr l path := ⟨_, rfl⟩
    obtain ⟨DL, hDL⟩ : ∃ x, x = folderL l path := ⟨_, rfl⟩
    obtain ⟨DE, hDE⟩ : ∃ x, x = folderErr l path := ⟨_, rfl⟩
    obtain ⟨FT, hFT⟩ : ∃ x : ByteArray, x = ⟨(fmtOf l).toArray⟩ := ⟨_, rfl⟩
    rw [← hFI, ← hFE] at HF HRF
    rw [← hDL, ← hDE] at HD HRD
    rw [← hFT] at HO HRO
    have HFT := hid hFT
    clear hFI hFE hDL hDE hFT h400
    rcases h12 with hb1 | ⟨hb1, hb2⟩
    · go_wp2_with fail
      refine (HF.out _ N1.out).mono ?_
      rintro e w2 ⟨rfl, n2⟩
      have N2 := hid (N1.out.trans n2)
      clear n2
      go_wp2_with fail
      refine (HRF.out _ N2.out).mono ?_
      rintro e w3 ⟨rfl, n3⟩
      have N3 := hid (N2.out.trans n3)
      clear n3
      go_wp2_with fail
      refine (HD.out hq _ N3.out).mono ?_
      rintro e w4 ⟨⟨da, dc, rfl, i4⟩, n4⟩
      have N4 := hid (N3.out.trans n4)
      have I4 := hid i4
      clear n4 i4
      go_wp2_with fail
      refine (HRD.out hq _ N4.out).mono ?_
      rintro e w5 ⟨⟨ea, ec, rfl, i5⟩, n5⟩
      have N5 := hid (N4.out.trans n5)
      have I5 := hid i5
      have J5 := hid (I4.out.new n5)
      clear n5 i5
      go_wp2_with fail
      refine (HPA.out _ N5.out).mono ?_
      rintro e w6 ⟨xa, xc, rfl, f6, n6⟩
      have N6 := hid (N5.out.trans n6)
      have I6 := hid (I5.out.new n6)
      have J6 := hid (J5.out.new n6)
      have F6 := hid f6
      clear n6 f6
      go_wp2_with fail
      refine (HPR.out _ N6.out).mono ?_
      rintro e w7 ⟨ya, yc, rfl, f7, n7⟩
      have N7 := hid (N6.out.trans n7)
      have I7 := hid (I6.out.new n7)
      have J7 := hid (J6.out.new n7)
      have F7 := hid f7
      have G7 := hid (F6.out.new n7)
      clear n7 f7
      go_wp2_with fail
      refine (HEQ.out _ _ _ _ _ _ J7.out I7.out).mono ?_
      rintro e w8 ⟨rfl, n8⟩
      have N8 := hid (N7.out.trans n8)
      have F8 := hid (F7.out.new n8)
      have G8 := hid (G7.out.new n8)
      clear n8
      go_wp2_with fail
      refine (HSS.out _ _ _ _ _ _ G8.out F8.out).mono ?_
      rintro e w9 ⟨rfl, n9⟩
      have N9 := hid (N8.out.trans n9)
      clear n9
      go_wp2_with fail
      refine (HO.out _ N9.out).mono ?_
      rintro e w10 ⟨rfl, n10⟩
      have N10 := hid (N9.out.trans n10)
      clear n10
      go_wp2_with fail
      refine (HRO.out _ N10.out).mono ?_
      rintro e w11 ⟨rfl, n11⟩
      have N11 := hid (N10.out.trans n11)
      clear n11
      have HL0 := hid HLF.out
      have hlr := HLF.out.room; have hlc := HLF.out.cap
      unfold maxLen at hlc
      go_wp2
      go_loopw [125] (fun x wr => ∃ k : Nat, x = .int .i64 k ∧ k ≤ l.length ∧ New w wr) (fun x _ => l.length - (intOf x).toNat)
      case atStart => exact ⟨0, rfl, by omega, N11.out⟩
      case round =>
        obtain ⟨k, rfl, hk, hn⟩ := hrel
        have HN := hid hn
        by_cases hlt : k < l.length
        · obtain ⟨b1, o1, rfl, hb1, hc1⟩ := HL0.out.get (by omega)
          obtain ⟨pa, pc, g0, g1, g2, hst, -⟩ := hc1 k hlt
          have g0 := hn.cellv g0; have g1 := hn.cellv g1; have g2 := hn.cellv g2
          have hps := HPS.out l[k] (List.getElem_mem hlt)
          obtain ⟨f, hf⟩ : ∃ f, f = l[k] := ⟨_, rfl⟩
          rw [← hf] at g0 g1 g2 hst hps
          have hr1 := hst.room; have hr2 := hst.cap
          unfold maxLen at hr2
          have HST := hid hst
          have hbw1 : b1 < wr.heap.size := by have := hn.size; omega
          clear hc1 hf hst hn
          obtain ⟨xb, hxb⟩ : ∃ xb, xb = wr.heap.size := ⟨_, rfl⟩
          have K0 : Hid (Fq w (wr.alloc (.cells #[.slice pa f.path.length pc, .int .i64 f.len, .bool f.pad] 51)) xb pa pc f f.pad) := hid ⟨HN.out.alloc _, by rw [hxb]; exact Blk.new _ _ _⟩
          have HPT := hid (fun W (n : New w W) => path_any pa pc f.path W (HST.out.new n) hps.2 hps.1)
          have HRP := hid (fun W (n : New w W) => rPath_any pa pc f.path W (HST.out.new n) hps.1)
          obtain ⟨J, hJ⟩ : ∃ J, J = joinB f.path := ⟨_, rfl⟩
          rw [← hJ] at HPT HRP
          clear hps hJ HST
          go_wp2
          rw [← hxb]
          clear hxb
          go_region_held3 (fun w' => w'.cell? ⟨xb, 0, none⟩ = some (.slice pa f.path.length pc)) ((first | exact KR.out.cells.1 | exact KP.out.cells.1 | exact K0.out.drew.cells.1 | go_keep)) ((first | (go_at_call 25; (with_reducible refine (HPT.out _ ?_).mono ?_); (focus (exact K0.out.drew.n)); rintro e wp ⟨rfl, np⟩; have KP : Hid (Fq w wp xb pa pc f f.pad) := hid (K0.out.drew.new np)) | (go_at_call 26; (with_reducible refine (HRP.out _ ?_).mono ?_); (focus (exact KP.out.n)); rintro e wq ⟨rfl, rfl⟩; have KR := hid KP.out)))
          go_wp2
          go_roundw
          case rel => exact ⟨k + 1, by simp, by omega, KR.out.n⟩
          case measure => simp [intOf]; omega
        · clear hn
          cases hvl : validOf l with
          | false =>
            have HVF := hid (fun W (n : New w W) => hvl ▸ HVA.out W n)
            clear hvl
            go_wp2_with fail
            refine (HVF.out _ HN.out).mono ?_
            rintro e w12 ⟨rfl, n12⟩
            have N12 := hid (HN.out.trans n12)
            clear n12
            go_wp2_with fail
            refine (HA.out _ N12.out).mono ?_
            rintro e w99 ⟨rfl, n9⟩
            have N99 := hid n9
            clear n9
            go_wp2
            go_ret
            exact ⟨rfl, (N12.out).trans N99.out⟩
          | true =>
            obtain ⟨r1, r2, r3, r4⟩ := HRT.out hvl
            have HVF := hid (fun W (n : New w W) => hvl ▸ HVA.out W n)
            have HPZ := hid (fun W (n : New w W) => HPP.out (fmtOf l) r4 W n)
            rw [r1, r2, r3] at HPZ
            rw [show mkB (fmtOf l) = FT from HFT.out.symm] at HPZ
            clear hvl r1 r2 r3 r4
            go_wp2_with fail
            refine (HVF.out _ HN.out).mono ?_
            rintro e w12 ⟨rfl, n12⟩
            have N12 := hid (HN.out.trans n12)
            clear n12
            go_wp2_with fail
            refine (HO.out _ N12.out).mono ?_
            rintro e w13 ⟨rfl, n13⟩
            have N13 := hid (N12.out.trans n13)
            clear n13
            go_wp2_with fail
            refine (HPZ.out _ N13.out).mono ?_
            rintro e w14 ⟨za, zc, rfl, f14, n14⟩
            have N14 := hid (N13.out.trans n14)
            have F14 := hid f14
            clear n14 f14
            go_wp2_with fail
            refine (HSS.out _ _ _ _ _ _ F14.out (HL0.out.new N14.out)).mono ?_
            rintro e w15 ⟨rfl, n15⟩
            have N15 := hid (N14.out.trans n15)
            clear n15
            go_wp2_with fail
            refine (HA.out _ N15.out).mono ?_
            rintro e w99 ⟨rfl, n9⟩
            have N99 := hid n9
            clear n9
            go_wp2
            go_ret
            exact ⟨rfl, (N15.out).trans N99.out⟩
    · go_wp2_with fail
      refine (HF.out _ N1.out).mono ?_
      rintro e w2 ⟨rfl, n2⟩
      have N2 := hid (N1.out.trans n2)
      clear n2
      go_wp2_with fail
      refine (HRF.out _ N2.out).mono ?_
      rintro e w3 ⟨rfl, n3⟩
      have N3 := hid (N2.out.trans n3)
      clear n3
      go_wp2_with fail
      refine (HD.out hq _ N3.out).mono ?_
      rintro e w4 ⟨⟨da, dc, rfl, i4⟩, n4⟩
      have N4 := hid (N3.out.trans n4)
      have I4 := hid i4
      clear n4 i4
      go_wp2_with fail
      refine (HRD.out hq _ N4.out).mono ?_
      rintro e w5 ⟨⟨ea, ec, rfl, i5⟩, n5⟩
      have N5 := hid (N4.out.trans n5)
      have I5 := hid i5
      have J5 := hid (I4.out.new n5)
      clear n5 i5
      go_wp2_with fail
      refine (HPA.out _ N5.out).mono ?_
      rintro e w6 ⟨xa, xc, rfl, f6, n6⟩
      have N6 := hid (N5.out.trans n6)
      have I6 := hid (I5.out.new n6)
      have J6 := hid (J5.out.new n6)
      have F6 := hid f6
      clear n6 f6
      go_wp2_with fail
      refine (HPR.out _ N6.out).mono ?_
      rintro e w7 ⟨ya, yc, rfl, f7, n7⟩
      have N7 := hid (N6.out.trans n7)
      have I7 := hid (I6.out.new n7)
      have J7 := hid (J6.out.new n7)
      have F7 := hid f7
      have G7 := hid (F6.out.new n7)
      clear n7 f7
      go_wp2_with fail
      refine (HEQ.out _ _ _ _ _ _ J7.out I7.out).mono ?_
      rintro e w8 ⟨rfl, n8⟩
      have N8 := hid (N7.out.trans n8)
      have F8 := hid (F7.out.new n8)
      have G8 := hid (G7.out.new n8)
      clear n8
      go_wp2_with fail
      refine (HSS.out _ _ _ _ _ _ G8.out F8.out).mono ?_
      rintro e w9 ⟨rfl, n9⟩
      have N9 := hid (N8.out.trans n9)
      clear n9
      go_wp2_with fail
      refine (HO.out _ N9.out).mono ?_
      rintro e w10 ⟨rfl, n10⟩
      have N10 := hid (N9.out.trans n10)
      clear n10
      go_wp2_with fail
      refine (HRO.out _ N10.out).mono ?_
      rintro e w11 ⟨rfl, n11⟩
      have N11 := hid (N10.out.trans n11)
      clear n11
      have HL0 := hid HLF.out
      have hlr := HLF.out.room; have hlc := HLF.out.cap
      unfold maxLen at hlc
      go_wp2
      go_loopw [125] (fun x wr => ∃ k : Nat, x = .int .i64 k ∧ k ≤ l.length ∧ New w wr) (fun x _ => l.length - (intOf x).toNat)
      case atStart => exact ⟨0, rfl, by omega, N11.out⟩
      case round =>
        obtain ⟨k, rfl, hk, hn⟩ := hrel
        have HN := hid hn
        by_cases hlt : k < l.length
        · obtain ⟨b1, o1, rfl, hb1, hc1⟩ := HL0.out.get (by omega)
          obtain ⟨pa, pc, g0, g1, g2, hst, -⟩ := hc1 k hlt
          have g0 := hn.cellv g0; have g1 := hn.cellv g1; have g2 := hn.cellv g2
          have hps := HPS.out l[k] (List.getElem_mem hlt)
          obtain ⟨f, hf⟩ : ∃ f, f = l[k] := ⟨_, rfl⟩
          rw [← hf] at g0 g1 g2 hst hps
          have hr1 := hst.room; have hr2 := hst.cap
          unfold maxLen at hr2
          have HST := hid hst
          have hbw1 : b1 < wr.heap.size := by have := hn.size; omega
          clear hc1 hf hst hn
          obtain ⟨xb, hxb⟩ : ∃ xb, xb = wr.heap.size := ⟨_, rfl⟩
          have K0 : Hid (Fq w (wr.alloc (.cells #[.slice pa f.path.length pc, .int .i64 f.len, .bool f.pad] 51)) xb pa pc f f.pad) := hid ⟨HN.out.alloc _, by rw [hxb]; exact Blk.new _ _ _⟩
          have HPT := hid (fun W (n : New w W) => path_any pa pc f.path W (HST.out.new n) hps.2 hps.1)
          have HRP := hid (fun W (n : New w W) => rPath_any pa pc f.path W (HST.out.new n) hps.1)
          obtain ⟨J, hJ⟩ : ∃ J, J = joinB f.path := ⟨_, rfl⟩
          rw [← hJ] at HPT HRP
          clear hps hJ HST
          go_wp2
          rw [← hxb]
          clear hxb
          go_region_held3 (fun w' => w'.cell? ⟨xb, 0, none⟩ = some (.slice pa f.path.length pc)) ((first | exact KR.out.cells.1 | exact KP.out.cells.1 | exact K0.out.drew.cells.1 | go_keep)) ((first | (go_at_call 25; (with_reducible refine (HPT.out _ ?_).mono ?_); (focus (exact K0.out.drew.n)); rintro e wp ⟨rfl, np⟩; have KP : Hid (Fq w wp xb pa pc f f.pad) := hid (K0.out.drew.new np)) | (go_at_call 26; (with_reducible refine (HRP.out _ ?_).mono ?_); (focus (exact KP.out.n)); rintro e wq ⟨rfl, rfl⟩; have KR := hid KP.out)))
          go_wp2
          go_roundw
          case rel => exact ⟨k + 1, by simp, by omega, KR.out.n⟩
          case measure => simp [intOf]; omega
        · clear hn
          cases hvl : validOf l with
          | false =>
            have HVF := hid (fun W (n : New w W) => hvl ▸ HVA.out W n)
            clear hvl
            go_wp2_with fail
            refine (HVF.out _ HN.out).mono ?_
            rintro e w12 ⟨rfl, n12⟩
            have N12 := hid (HN.out.trans n12)
            clear n12
            go_wp2_with fail
            refine (HA.out _ N12.out).mono ?_
            rintro e w99 ⟨rfl, n9⟩
            have N99 := hid n9
            clear n9
            go_wp2
            go_ret
            exact ⟨rfl, (N12.out).trans N99.out⟩
          | true =>
            obtain ⟨r1, r2, r3, r4⟩ := HRT.out hvl
            have HVF := hid (fun W (n : New w W) => hvl ▸ HVA.out W n)
            have HPZ := hid (fun W (n : New w W) => HPP.out (fmtOf l) r4 W n)
            rw [r1, r2, r3] at HPZ
            rw [show mkB (fmtOf l) = FT from HFT.out.symm] at HPZ
            clear hvl r1 r2 r3 r4
            go_wp2_with fail
            refine (HVF.out _ HN.out).mono ?_
            rintro e w12 ⟨rfl, n12⟩
            have N12 := hid (HN.out.trans n12)
            clear n12
            go_wp2_with fail
            refine (HO.out _ N12.out).mono ?_
            rintro e w13 ⟨rfl, n13⟩
            have N13 := hid (N12.out.trans n13)
            clear n13
            go_wp2_with fail
            refine (HPZ.out _ N13.out).mono ?_
            rintro e w14 ⟨za, zc, rfl, f14, n14⟩
            have N14 := hid (N13.out.trans n14)
            have F14 := hid f14
            clear n14 f14
            go_wp2_with fail
            refine (HSS.out _ _ _ _ _ _ F14.out (HL0.out.new N14.out)).mono ?_
            rintro e w15 ⟨rfl, n15⟩
            have N15 := hid (N14.out.trans n15)
            clear n15
            go_wp2_with fail
            refine (HA.out _ N15.out).mono ?_
            rintro e w99 ⟨rfl, n9⟩
            have N99 := hid n9
            clear n9
            go_wp2
            go_ret
            exact ⟨rfl, (N15.out).trans N99.out⟩
set_option maxRecDepth 100000 in
theorem lifted (os : Os) (started : os.Started) (H : Type) (enc : TypeId × Value → H) :
    ReturnsInHanded {} Tryz.checked os 4 .any (fun w args => (Rows.filesTextsSpec.pre enc Tryz.prog Tryz.f4 [] false w args ∧ laidMetH Tryz.prog Rows.filesTextsRow.laid w) ∧ sizedMet enc Tryz.prog Tryz.f4 (OpenSpec.ofChange Rows.filesTextsSpec) false w args)
      (Rows.filesTextsSpec.post enc Tryz.prog Tryz.f4 false true false false) := by
  refine returnsInHanded_full (C := Tryz.checked) (X := fun w _ => laidMetH Tryz.prog Rows.filesTextsRow.laid w) (fun _ _ _ hh h => h.of_heap hh) ownT started (by kernel_rfl) Tryz.func4
    (ChangeSpec.witness_shaped (enc := enc) (C := Tryz.checked) (os := os) (X := fun w _ => laidMetH Tryz.prog Rows.filesTextsRow.laid w) false (World.laidAll Tryz.prog os Rows.filesTextsRow.laid) #[.slice none 0 0, .string ⟨#[]⟩, .string ⟨#[]⟩] 8 (World.laidAll_os _ _ _) (World.shaped_of_ZipB (by kernel_rfl) (by kernel_rfl)) (by kernel_rfl) (by kernel_rfl) (by kernel_rfl) (by rw [MakeChecks.laidMetH_plain _ _ _ (by kernel_rfl)]; exact laidMet_laidAll _ (by kernel_rfl) (by kernel_rfl))) ?_
  intro W base args ds gs before hval0 hW _ hZ0 hL hsh _
  have hval : ∀ (j : Nat) t v, Tryz.f4.params[j]? = some t → args[j]? = some v → Value.okWide Tryz.prog W .any base t v := hval0
  have hZ : (DataW.weightsEach Tryz.prog (Tryz.f4.params.toList ++ Rows.filesTextsSpec.plain.varTypes Tryz.prog) (ds ++ gs)).all (· ≤ reachBytes) = true := hZ0
  have hW' := hW
  obtain ⟨p, q, hA0, hV, rfl, hfz, hnd⟩ := hW
  have hA : DataW.TrodAll enc Tryz.prog W 0 (fun _ => true) true Tryz.f4.params.toList args.toList ds p := hA0
  rw [Tryz.params4] at hA hval hZ
  obtain ⟨v0, vs0, d0, ds0, p0, q0, hargs, rfl, rfl, h0, r0⟩ := trodAll_cons hA
  obtain ⟨v1, vs1, d1, ds1, p1, q1, rfl, rfl, rfl, h1, r1⟩ := trodAll_cons r0
  obtain ⟨v2, vs2, d2, ds2, p2, q2, rfl, rfl, rfl, h2, r2⟩ := trodAll_cons r1
  obtain ⟨rfl, rfl, rfl⟩ := trodAll_nil r2
  obtain rfl : args = #[v0, v1, v2] := by cases args; simp_all
  obtain ⟨rfl, rfl⟩ := trodVars_none hV
  have k0 := h0
  have k1 := h1
  have k2 := h2
  have lt0 : ∀ x ∈ p0, x.block < W.heap.size := by obtain ⟨m, hm⟩ := k0; exact DataW.trod_lt m _ _ _ hm
  have lt1 : ∀ x ∈ p1, x.block < W.heap.size := by obtain ⟨m, hm⟩ := k1; exact DataW.trod_lt m _ _ _ hm
  have lt2 : ∀ x ∈ p2, x.block < W.heap.size := by obtain ⟨m, hm⟩ := k2; exact DataW.trod_lt m _ _ _ hm
  obtain ⟨a_l, len_l, c_l, rfl⟩ := okWide_slice Tryz.underlying22 (hval 0 22 v0 rfl rfl)
  obtain ⟨l, hlen_l, h_l, m_l⟩ : ∃ l, l.length = len_l ∧ FilesAt W a_l c_l l ∧ ∀ f ∈ l, ∀ s ∈ f.path, s.size ∈ d0.weights Tryz.prog 22 := by
    obtain ⟨fuel, hf⟩ := h0
    obtain ⟨a', c', l, hcs, hfa, hm⟩ := open_filesW hf
    simp [Value.cells] at hcs
    obtain ⟨rfl, rfl, rfl⟩ := hcs
    exact ⟨l, rfl, hfa, hm⟩
  subst hlen_l
  have s_l := small_of (j := 0) hZ rfl rfl m_l
  obtain ⟨path, rfl, -, -, h_path⟩ := Go.ChangeMaps.open_string Tryz.underlying9 (hval 1 9 v1 rfl rfl) h1
  obtain ⟨text, rfl, -, -, h_text⟩ := Go.ChangeMaps.open_string Tryz.underlying9 (hval 2 9 v2 rfl rfl) h2
  clear hA0 hval0 hZ0
  refine (law_any a_l c_l l path text W h_l s_l (vars_of hL hsh) h_path h_text).mono fun e W' ⟨he, hn⟩ => ?_
  subst he
  have bel : Below W.heap.size W W' := hn.below _ (Nat.le_refl _) (fun _ _ x => x)
  exact ⟨_, rfl, _, _, _, [], _, [], hW', trodAll_mk1 (shut_bool Tryz.underlying4 _), (trodAll_cons_mk (Below.trod laidOutT (by kernel_rfl) (of_decide_eq_true (by kernel_rfl)) k0 bel lt0) (trodAll_cons_mk (Below.trod laidOutT (by kernel_rfl) (of_decide_eq_true (by kernel_rfl)) k1 bel lt1) (trodAll_cons_mk (Below.trod laidOutT (by kernel_rfl) (of_decide_eq_true (by kernel_rfl)) k2 bel lt2) trodAll_mk0))), rfl, bel.frame _, fun h => by cases h⟩

theorem over : Rows.FilesTextsSaid :=
  OpenClaim.holds_of_wide 4 Tryz.f4 rfl rfl rfl rfl rfl rfl rfl ⟨rfl, rfl, rfl, rfl, rfl⟩ rfl rfl rfl rfl rfl (by kernel_rfl) Tryz.func4 (by kernel_rfl)
    (of_decide_eq_true (by kernel_rfl)) (by unfold Func.isWrapper; first | (rw [if_pos (by decide +kernel)]; kernel_rfl) | (rw [if_neg (by decide +kernel)]; exact ⟨rfl, rfl⟩))
    (fun os started H enc _ => lifted os started H enc)

theorem proved : Rows.FilesTextsCardSaid :=
  Claim7.holds_tied_plain_at .later [] [.data, .data, .data, .data, .sentinel, .sentinel, .pinned] true Rows.filesTextsCard.stood.harness true
    over (fun _ h => by cases h) (by kernel_rfl) (fun _ h => by cases h) filesTexts_row_tie rfl ⟨rfl, rfl⟩ (by kernel_rfl) rfl
    (fun f fn hf hfn => by
      obtain rfl : f = 4 := Option.some.inj ((show Tryz.prog.funcNamed "covey/coveylaw05.FilesTexts" = some 4 by kernel_rfl).symm.trans hf) |>.symm
      obtain rfl : fn = Tryz.f4 := (Option.some.inj (Tryz.func4.symm.trans hfn)).symm
      exact ⟨by kernel_rfl, fun j t ht => by
        rw [Tryz.params4] at ht
        have hm : t ∈ [22, 9, 9] := by simpa using Array.mem_of_getElem? ht
        have hall : ([22, 9, 9].all fun u => !Tryz.prog.wantsStandIn u) = true := by kernel_rfl
        exact (show Tryz.prog.wantsStandIn t = false by simpa using List.all_eq_true.1 hall t hm)⟩)
    (by kernel_rfl)
#print axioms proved
end Go.Proofs.YtnccfikimmolgaaGreatDoor.filesTexts
