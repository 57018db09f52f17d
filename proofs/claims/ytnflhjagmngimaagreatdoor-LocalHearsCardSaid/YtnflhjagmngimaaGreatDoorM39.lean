/-
  Several texts in one, in their build order. The walk of the law LocalHears. Conditions: the names and the address lie as told; the library's variables are laid.
-/
import Derived.Test.YtnflhjagmngimaaGreatDoorM32
import Derived.Test.YtnflhjagmngimaaGreatDoorM38
import Derived.Test.YtnflhjagmngimaaGreatDoorM34
import Derived.Test.YtnflhjagmngimaaGreatDoorM37
namespace Go.Proofs.YtnflhjagmngimaaGreatDoor
set_option linter.unusedSimpArgs false
set_option linter.unusedVariables false
open Go.RowKit Go.Shelf

/-- A fresh crier of a port and a cookie. -/
structure FreshP (c : CrV) (port : Int) (cook : ByteArray) : Prop where
  fr : FreshC c 1000
  port : c.port = port
  cook : c.cookie = cook
  min : c.min = 0
  heard : c.heard = fun _ => 0
theorem FreshP.add {c : CrV} {port : Int} {cook : ByteArray} (h : FreshP c port cook) {k : ByteArray} (hk : c.addE k false = 0) : FreshP (c.addC k) port cook := ⟨h.fr.add hk, h.port, h.cook, h.min, h.heard⟩
theorem FreshP.made {seed : ByteArray} {port : Int} (h : newEr seed port 1000 = 0) : FreshP (newCr seed port 1000) port (cookV seed) := ⟨⟨rfl, rfl, rfl, (fun n hn => by cases hn), newCr_ok h⟩, rfl, rfl, rfl, rfl⟩
theorem newEr_val (seed : ByteArray) {port : Int} (hp : 1 ≤ port ∧ port ≤ 65535) : newEr seed port 1000 = if 100 < seed.size then 1 else 0 := by
  unfold newEr
  split
  · rfl
  · rw [if_neg (by omega)]
theorem inB_take {l : List ByteArray} {n : ByteArray} {j : Nat} (hj : j < l.length) : inB (l.take (j + 1)) n = (inB (l.take j) n || l[j].data == n.data) := by
  unfold inB
  rw [List.take_succ_eq_append_getElem hj, List.any_append]
  simp
theorem inB_fresh {l : List ByteArray} (hn : l.Nodup) {j : Nat} (hj : j < l.length) : inB (l.take j) l[j] = false := by
  rw [inB_no]
  intro q
  obtain ⟨i, hi, e⟩ := List.getElem_of_mem q
  rw [List.getElem_take] at e
  have hi2 : i < j := by rw [List.length_take] at hi; omega
  exact List.pairwise_iff_getElem.1 hn i j (by omega) hj hi2 e
theorem toList_eq_iff {a b : ByteArray} : (a.toList == b.toList) = (a.data == b.data) := by
  rw [ByteArray.toList_eq, ByteArray.toList_eq]
  by_cases h : a.data = b.data
  · rw [h]; simp
  · have h2 : a.data.toList ≠ b.data.toList := by
      intro q
      exact h (by cases ha : a.data; cases hb : b.data; rw [ha, hb] at q; simp at q; rw [q])
    rw [beq_eq_false_iff_ne.2 h2, beq_eq_false_iff_ne.2 h]
theorem filter_add {d own : List ByteArray} {n : ByteArray} : (d ++ [n]).filter (inB own) = d.filter (inB own) ++ (if inB own n then [n] else []) := by
  rw [List.filter_append]
  congr 1
  cases h : inB own n <;> simp [h]
theorem he_bad {c : CrV} {t : Int} {x : AdrV} {s : ByteArray} (h : adrOk x = false) : c.hearE t x s = 1 := by unfold CrV.hearE; rw [if_pos h]
theorem he_own {c : CrV} {t : Int} {x : AdrV} {s : ByteArray} (h : adrOk x = true) (hs : s.size ≤ 1400) (ha : c.atE t = 0) (hp : psE s = 0) (hc : (psM s).cookie = c.cookie) : c.hearE t x s = 9 := by
  unfold CrV.hearE
  rw [if_neg (by rw [h]; decide), if_neg (by omega), if_neg (by rw [ha]; decide), if_neg (by rw [hp]; decide), if_pos (by rw [hc])]
theorem he_ok {c : CrV} {t : Int} {x : AdrV} {s : ByteArray} (h : adrOk x = true) (hs : s.size ≤ 1400) (ha : c.atE t = 0) (hp : psE s = 0) (hc : (psM s).cookie.data ≠ c.cookie.data) (hh : ¬ (t / 60000 = c.min ∧ c.heard x.ip = 20)) : c.hearE t x s = 0 := by
  unfold CrV.hearE
  rw [if_neg (by rw [h]; decide), if_neg (by omega), if_neg (by rw [ha]; decide), if_neg (by rw [hp]; decide), if_neg hc, if_neg hh]
set_option maxRecDepth 100000 in
set_option maxHeartbeats 8000000 in
theorem hears_any (a b : ByteArray) (ax ay : Option Addr) (cx cy : Nat) (x y : List ByteArray) (adr : AdrV) (w : World) (ha : a.size ≤ maxLen) (hb : b.size ≤ maxLen) (hx : StrsAt w ax cx x) (hy : StrsAt w ay cy y) (hip : adr.ip.size ≤ maxLen) (hv : VarsL w) :
    Calls Tryz.prog 4 #[.string a, .string b, .slice ax x.length cx, .slice ay y.length cy, .agg #[.int .i64 adr.fam, .string adr.ip, .int .i64 adr.port]] w fun e w' => e = .returned (.bool true) ∧ New w w' := by
  obtain ⟨fam, ip, port⟩ := adr
  simp only at hip ⊢
  have HA := hid (fun W (n : New w W) => awake23_any W (hv.1.new n))
  have HV := hid hv; have HX := hid hx; have HY := hid hy
  have hrx := hx.room; have hcx := hx.cap; have hry := hy.room; have hcy := hy.cap
  unfold maxLen at hcx hcy ha hb hip
  have NB := hid ((Mod.refl (fun _ => False) w).alloc (.cells #[.int .i64 fam, .string ip, .int .i64 port] 40))
  clear hv hx hy
  by_cases g1 : 15 < x.length
  · have e1 : (15 : Int) < (x.length : Int) := by omega
    go_enter Tryz.func4, Tryz.ntmps4
    go_wp2_with fail
    refine (HA.out _ (NB.out)).mono ?_
    rintro e w99 ⟨rfl, n9⟩
    have N99 := hid ((NB.out).trans n9)
    clear n9
    go_wp2
    go_ret
    exact ⟨rfl, N99.out⟩
  have e1 : ¬ (15 : Int) < (x.length : Int) := by omega
  by_cases g2 : 15 < y.length
  · have e2 : (15 : Int) < (y.length : Int) := by omega
    go_enter Tryz.func4, Tryz.ntmps4
    go_wp2_with fail
    refine (HA.out _ (NB.out)).mono ?_
    rintro e w99 ⟨rfl, n9⟩
    have N99 := hid ((NB.out).trans n9)
    clear n9
    go_wp2
    go_ret
    exact ⟨rfl, N99.out⟩
  have e2 : ¬ (15 : Int) < (y.length : Int) := by omega
  cases g3 : (a.toList == b.toList) with
  | true =>
    go_enter Tryz.func4, Tryz.ntmps4
    go_wp2_with fail
    refine (HA.out _ (NB.out)).mono ?_
    rintro e w99 ⟨rfl, n9⟩
    have N99 := hid ((NB.out).trans n9)
    clear n9
    go_wp2
    go_ret
    exact ⟨rfl, N99.out⟩
  | false =>
  have hea := newEr_val a (port := 7) (by decide)
  have heb := newEr_val b (port := 8) (by decide)
  by_cases g4 : 100 < a.size
  · rw [if_pos g4] at hea
    have HN := hid (fun W => crNew_no a 7 1000 W (by unfold maxLen; omega) (by rw [hea]; decide))
    rw [hea] at HN
    by_cases g5 : 100 < b.size
    · rw [if_pos g5] at heb
      have HN2 := hid (fun W => crNew_no b 8 1000 W (by unfold maxLen; omega) (by rw [heb]; decide))
      rw [heb] at HN2
      clear hea heb g4 g5
      go_enter Tryz.func4, Tryz.ntmps4
      go_wp2_with fail
      refine (HN.out _).mono ?_
      rintro e w1 ⟨rfl, rfl⟩
      go_wp2_with fail
      refine (HN2.out _).mono ?_
      rintro e w1 ⟨rfl, rfl⟩
      go_wp2_with fail
      refine (HA.out _ (NB.out)).mono ?_
      rintro e w99 ⟨rfl, n9⟩
      have N99 := hid ((NB.out).trans n9)
      clear n9
      go_wp2
      go_ret
      exact ⟨rfl, N99.out⟩
    · rw [if_neg g5] at heb
      have HN2 := hid (fun W => crNew_ok b 8 1000 W heb)
      clear hea heb g4 g5
      go_enter Tryz.func4, Tryz.ntmps4
      go_wp2_with fail
      refine (HN.out _).mono ?_
      rintro e w1 ⟨rfl, rfl⟩
      go_wp2_with fail
      refine (HN2.out _).mono ?_
      rintro e w1 ⟨B2, M2, H2, rfl, -, n2, -⟩
      have N2 := hid (NB.out.trans n2)
      clear n2
      go_wp2_with fail
      refine (HA.out _ (N2.out)).mono ?_
      rintro e w99 ⟨rfl, n9⟩
      have N99 := hid ((N2.out).trans n9)
      clear n9
      go_wp2
      go_ret
      exact ⟨rfl, N99.out⟩
  rw [if_neg g4] at hea
  have HN := hid (fun W => crNew_ok a 7 1000 W hea)
  have HFA := hid (FreshP.made hea)
  by_cases g5 : 100 < b.size
  · rw [if_pos g5] at heb
    have HN2 := hid (fun W => crNew_no b 8 1000 W (by unfold maxLen; omega) (by rw [heb]; decide))
    rw [heb] at HN2
    clear hea heb g4 g5
    go_enter Tryz.func4, Tryz.ntmps4
    go_wp2_with fail
    refine (HN.out _).mono ?_
    rintro e w1 ⟨B, M, H, rfl, -, n1, -⟩
    have N1 := hid (NB.out.trans n1)
    clear n1
    go_wp2_with fail
    refine (HN2.out _).mono ?_
    rintro e w2 ⟨rfl, rfl⟩
    go_wp2_with fail
    refine (HA.out _ (N1.out)).mono ?_
    rintro e w99 ⟨rfl, n9⟩
    have N99 := hid ((N1.out).trans n9)
    clear n9
    go_wp2
    go_ret
    exact ⟨rfl, N99.out⟩
  rw [if_neg g5] at heb
  have HN2 := hid (fun W => crNew_ok b 8 1000 W heb)
  have HFB := hid (FreshP.made heb)
  clear hea heb g4 g5
  go_enter Tryz.func4, Tryz.ntmps4
  go_wp2_with fail
  refine (HN.out _).mono ?_
  rintro e w1 ⟨B, M, H, rfl, hcr, n1, hB, hM, hH⟩
  have N1 := hid (NB.out.trans n1); have HC1 := hid hcr
  have F1 := hid (New.blk n1 (Blk.new w #[.int .i64 fam, .string ip, .int .i64 port] 40))
  obtain ⟨lB, lM, lH⟩ := hcr.lt
  have hB : w.heap.size + 1 ≤ B := by simpa using hB
  have hM : w.heap.size + 1 ≤ M := by simpa using hM
  have hH : w.heap.size + 1 ≤ H := by simpa using hH
  clear n1 hcr
  go_wp2_with fail
  refine (HN2.out _).mono ?_
  rintro e w2 ⟨B2, M2, H2, rfl, hcr2, n2, hB2, hM2, hH2⟩
  have N2 := hid (N1.out.trans n2); have HD2 := hid hcr2; have HC2 := hid (HC1.out.new n2)
  have F2 := hid (New.blk n2 F1.out)
  obtain ⟨lB2, lM2, lH2⟩ := hcr2.lt
  clear n2 hcr2
  have HCK := hid (cCookie_any B M H _ w2 HC2.out)
  have HDK := hid (cCookie_any B2 M2 H2 _ w2 HD2.out)
  have HCK : Hid (Calls Tryz.prog 13 #[.pointer (some ⟨B, 0, none⟩)] w2 fun e w' => e = .returned (.string (cookV a)) ∧ w' = w2) := HCK
  have HDK : Hid (Calls Tryz.prog 13 #[.pointer (some ⟨B2, 0, none⟩)] w2 fun e w' => e = .returned (.string (cookV b)) ∧ w' = w2) := HDK
  obtain ⟨CA, hCA⟩ : ∃ CA, CA = cookV a := ⟨_, rfl⟩
  obtain ⟨CB, hCB⟩ : ∃ CB, CB = cookV b := ⟨_, rfl⟩
  rw [← hCA] at HCK HFA
  rw [← hCB] at HDK HFB
  clear hCA hCB
  cases g6 : (CA.toList == CB.toList) with
  | true =>
    go_wp2_with (first | (go_at_call_of 13 (Value.pointer (some ⟨B, 0, none⟩)); refine HCK.out.mono ?_; rintro e w3 ⟨rfl, rfl⟩) | (go_at_call 13; refine HDK.out.mono ?_; rintro e w3 ⟨rfl, rfl⟩))
    refine (HA.out _ (N2.out)).mono ?_
    rintro e w99 ⟨rfl, n9⟩
    have N99 := hid ((N2.out).trans n9)
    clear n9
    go_wp2
    go_ret
    exact ⟨rfl, N99.out⟩
  | false =>
    go_wp2_with (first | (go_at_call_of 13 (Value.pointer (some ⟨B, 0, none⟩)); refine HCK.out.mono ?_; rintro e w3 ⟨rfl, rfl⟩) | (go_at_call 13; refine HDK.out.mono ?_; rintro e w3 ⟨rfl, rfl⟩))
    have HG6 := hid g6
    clear g6 g3
    obtain ⟨w2, hw2⟩ : ∃ w2, w2 = w3 := ⟨_, rfl⟩
    subst hw2
    go_loopw [15, 66] (fun v i wr => ∃ (k : Nat) (c : CrV), i = .int .i64 k ∧ k ≤ x.length ∧ FreshP c 7 CA ∧ c.all.length ≤ k ∧ CrAt wr B M H c ∧ OwnT wr w2.heap.size v c.all ∧ Mod (fun j => j = M ∨ w2.heap.size ≤ j) w2 wr) (fun _ i _ => x.length - (intOf i).toNat)
    case atStart => exact ⟨0, _, rfl, by omega, HFA.out, Nat.le_refl _, HC2.out, OwnT.nil _ _, Mod.refl _ _⟩
    case round =>
      obtain ⟨k, c, rfl, hk, hfr, hlen, hcr, hown, hmd⟩ := hrel
      have HF := hid hfr; have HC := hid hcr; have HO := hid hown; have HM := hid hmd; have HLN := hid hlen
      have NW : Hid (New w wr) := hid (N2.out.trans' hmd (fun i hi q => by omega))
      clear hfr hcr hown hlen
      by_cases hlt : k < x.length
      · obtain ⟨bb, oo, rfl, hbb, hcc⟩ := (HX.out.new NW.out).get (by omega)
        have g0 := hcc k hlt
        have hsm := HX.out.small x[k] (List.getElem_mem _)
        obtain ⟨s, hs'⟩ : ∃ s, s = x[k] := ⟨_, rfl⟩
        rw [← hs'] at g0 hsm
        have hsm2 := hid hsm
        clear hcc hs' hmd
        by_cases hadd : c.addE s false = 0
        · have HAD := hid (cAdd_yes B M H c s false wr HC.out hsm hadd)
          have HF2 := hid (HF.out.add hadd)
          clear hadd hsm
          go_wp2_with fail
          refine HAD.out.mono ?_
          rintro e w4 ⟨rfl, hc4, hm4⟩
          have HC4 := hid hc4
          have HM4 := hid (HM.out.trans' hm4 (S := fun j => j = M ∨ w2.heap.size ≤ j) (fun i _ q => .inl q))
          have HO4 := hid (HO.out.mod hm4 (fun j hj _ q => by omega))
          have hz4 := HM4.out.size
          clear hc4 hm4
          obtain ⟨ao, co, rfl, hso, hbo⟩ := HO4.out.strs
          have hco := hso.cap
          unfold maxLen at hco
          have hln := HLN.out
          clear hso hbo
          obtain ⟨i1, hj, hy0, hy1, hy2⟩ := info_parts info_str
          go_wp2_with (at_builtin; refine wpList_append_own_at _ rfl _ _ 22 rfl w2.heap.size 9 i1 _ 1 16 Tryz.underlying22 hj hy0 hy1 hy2 rfl (by decide) (.slice ao c.all.length co) c.all.length (c.all.map Value.string) rfl ?ow ⟨w4.heap.size, 0, none⟩ 1 1 [.string s] rfl rfl ?hn ?h1 ?h63 ?hby ?hba ?_)
          case ow => exact (HO4.out.new ((Mod.refl _ _).alloc _)).row
          case hn =>
            intro j u hj
            rw [add_zero]
            match j, hj with
            | 0, hj => simp at hj; subst hj; exact (Blk.newAt (by simp)).cellv 0 rfl
          case h1 => intro u hu; simp at hu; subst hu; rfl
          case h63 => unfold maxLen; omega
          case hby => omega
          case hba => simp; omega
          intro o3 w5 r5 g5 _ _
          have O5 : Hid (OwnT w5 w2.heap.size o3 (c.all ++ [s])) := hid (ownT_of HO4.out.small hsm2.out r5)
          have M5 : Hid (Mod (fun k => w2.heap.size ≤ k) w4 w5) := hid (mod_grownT (HO4.out.new ((Mod.refl _ _).alloc _)) (Nat.le_refl _) ((Mod.refl _ _).alloc _) g5)
          clear r5 g5
          go_wp2
          exact ⟨⟨k + 1, c.addC s, by simp, by omega, HF2.out, by show (c.all ++ [s]).length ≤ k + 1; rw [List.length_append, List.length_singleton]; omega, HC4.out.mod M5.out (by omega) (by omega) (by omega), O5.out, HM4.out.trans' M5.out (fun i _ q => .inr q)⟩, by simp [intOf]; omega⟩
        · have HAD := hid (cAdd_no B M H c s false wr HC.out hsm hadd)
          obtain ⟨E, hE⟩ : ∃ E, E = c.addE s false := ⟨_, rfl⟩
          rw [← hE] at HAD hadd
          have e4 : (E == 0) = false := by rw [beq_eq_false_iff_ne]; exact hadd
          clear hadd hE hsm
          go_wp2_with fail
          refine HAD.out.mono ?_
          rintro e w4 ⟨rfl, n4⟩
          have HM4 := hid (HM.out.trans' n4 (S := fun j => j = M ∨ w2.heap.size ≤ j) (fun i _ q => q.elim))
          have HC4 := hid (HC.out.new n4); have HO4 := hid (HO.out.new n4)
          clear n4
          go_wp2_with fail
          exact ⟨⟨k + 1, c, by simp, by omega, HF.out, by have := HLN.out; omega, HC4.out, HO4.out, HM4.out⟩, by simp [intOf]; omega⟩
      · have HDA : Hid (CrAt wr B2 M2 H2 (newCr b 8 1000)) := hid (HD2.out.mod hmd (by omega) (by omega) (by omega))
        have F3 := hid (hmd.blk F2.out (by omega))
        have HNA := hid HC.out.names.nodup
        have hcl := HLN.out
        obtain ⟨ao, co, rfl, hso, hbo⟩ := HO.out.strs
        have hco := hso.cap
        unfold maxLen at hco
        have HSO := hid hso; have HBO := hid hbo
        clear hso hbo
        obtain ⟨wA, hwA⟩ : ∃ wA, wA = wr := ⟨_, rfl⟩
        subst hwA
        have hzA := hmd.size
        clear hmd
        go_wp2_with fail
        go_loopw [16, 81] (fun v i wr => ∃ (k : Nat) (d : CrV), i = .int .i64 k ∧ k ≤ y.length ∧ FreshP d 8 CB ∧ d.all.length ≤ k ∧ CrAt wr B2 M2 H2 d ∧ OwnT wr wA.heap.size v (d.all.filter (inB c.all)) ∧ Mod (fun j => j = M2 ∨ wA.heap.size ≤ j) wA wr) (fun _ i _ => y.length - (intOf i).toNat)
        case atStart => exact ⟨0, _, rfl, by omega, HFB.out, Nat.le_refl _, HDA.out, OwnT.nil _ _, Mod.refl _ _⟩
        case round =>
          obtain ⟨k2, d, rfl, hk2, hfd, hlend, hcd, hownd, hmd2⟩ := hrel
          have HFD := hid hfd; have HCD := hid hcd; have HOD := hid hownd; have HMD := hid hmd2; have HLD := hid hlend
          obtain ⟨wq, hwq⟩ : ∃ wq, wq = wr := ⟨_, rfl⟩
          subst hwq
          have NQ : Hid (New w wq) := hid (NW.out.trans' hmd2 (fun i hi q => by omega))
          clear hfd hcd hownd hlend
          by_cases hlt2 : k2 < y.length
          · obtain ⟨bb, oo, rfl, hbb, hcc⟩ := (HY.out.new NQ.out).get (by omega)
            have g0 := hcc k2 hlt2
            have hsm := HY.out.small y[k2] (List.getElem_mem _)
            obtain ⟨s, hs'⟩ : ∃ s, s = y[k2] := ⟨_, rfl⟩
            rw [← hs'] at g0 hsm
            have hsm2 := hid hsm
            clear hcc hs' hmd2
            by_cases hadd : d.addE s false = 0
            · have HAD := hid (cAdd_yes B2 M2 H2 d s false wq HCD.out hsm hadd)
              have HF2 := hid (HFD.out.add hadd)
              clear hadd hsm
              go_wp2_with fail
              refine HAD.out.mono ?_
              rintro e w4 ⟨rfl, hc4, hm4⟩
              have HC4 := hid hc4
              have HM4 := hid (HMD.out.trans' hm4 (S := fun j => j = M2 ∨ wA.heap.size ≤ j) (fun i _ q => .inl q))
              have HO4 := hid (HOD.out.mod hm4 (fun j hj _ q => by omega))
              have hz4 := HM4.out.size
              clear hc4 hm4
              go_wp2_with fail
              go_loopw [16, 91] (fun v i wr => ∃ (j : Nat), i = .int .i64 j ∧ j ≤ c.all.length ∧ OwnT wr wA.heap.size v (d.all.filter (inB c.all) ++ (if inB (c.all.take j) s then [s] else [])) ∧ Mod (fun q => wA.heap.size ≤ q) w4 wr) (fun _ i _ => c.all.length - (intOf i).toNat)
              case atStart => exact ⟨0, rfl, by omega, by simpa [inB] using HO4.out, Mod.refl _ _⟩
              case round =>
                obtain ⟨j, rfl, hj, hob, hmb⟩ := hrel
                have HOB := hid hob; have HMB := hid hmb
                have hzb := hmb.size
                by_cases hjl : j < c.all.length
                · have HMW : Hid (Mod (fun j => j = M2 ∨ wA.heap.size ≤ j) wA wr) := hid (HM4.out.trans' hmb (fun i _ q => .inr q))
                  have hst := HSO.out.ofBlock (fun x hx => HMW.out.block x.block (HBO.out x hx).2 (by have := (HBO.out x hx).1; have := (HBO.out x hx).2; omega)) HMW.out.size
                  obtain ⟨b8, o8, rfl, hb8, hc8⟩ := hst.get (by omega)
                  have g8 := hc8 j hjl
                  have hfr8 := inB_fresh HNA.out hjl
                  have htk8 := inB_take (n := s) hjl
                  obtain ⟨n, hnm⟩ : ∃ n, n = c.all[j] := ⟨_, rfl⟩
                  rw [← hnm] at g8 hfr8 htk8
                  rw [← toList_eq_iff] at htk8
                  obtain ⟨T, hT⟩ : ∃ T, T = inB (c.all.take j) s := ⟨_, rfl⟩
                  rw [← hT] at HOB htk8
                  have HTK := hid htk8
                  have HFR : Hid ((n.toList == s.toList) = true → T = false) := hid (fun q => by
                    rw [toList_eq_iff, beq_iff_eq] at q
                    rw [hT, ← ba_eq q]
                    exact hfr8)
                  clear hst hc8 hnm hT hob hmb hfr8 htk8
                  cases heq : (n.toList == s.toList) with
                  | false =>
                    rw [heq, Bool.or_false] at HTK
                    go_wp2_with fail
                    exact ⟨⟨j + 1, by simp, by omega, by rw [HTK.out]; exact HOB.out, HMB.out⟩, by simp [intOf]; omega⟩
                  | true =>
                    obtain rfl := HFR.out heq
                    rw [heq] at HTK
                    have HTK2 := hid (show inB (c.all.take (j + 1)) s = true by rw [HTK.out]; rfl)
                    simp only [Bool.false_eq_true, if_false, List.append_nil] at HOB
                    obtain ⟨ao2, co2, rfl, hso2, hbo2⟩ := HOB.out.strs
                    have hco2 := hso2.cap
                    unfold maxLen at hco2
                    have hfl : (d.all.filter (inB c.all)).length ≤ 15 := by
                      have h1 := List.length_filter_le (inB c.all) d.all
                      have := HLD.out
                      omega
                    obtain ⟨L, hL⟩ : ∃ L, L = d.all.filter (inB c.all) := ⟨_, rfl⟩
                    rw [← hL] at HOB hfl ⊢
                    clear hso2 hbo2 hL
                    obtain ⟨i1, hj9, hy0, hy1, hy2⟩ := info_parts info_str
                    go_wp2_with (at_builtin; refine wpList_append_own_at _ rfl _ _ 22 rfl wA.heap.size 9 i1 _ 1 16 Tryz.underlying22 hj9 hy0 hy1 hy2 rfl (by decide) (.slice ao2 L.length co2) L.length (L.map Value.string) rfl ?ow ⟨wr.heap.size, 0, none⟩ 1 1 [.string s] rfl rfl ?hn ?h1 ?h63 ?hby ?hba ?_)
                    case ow => exact (HOB.out.new ((Mod.refl _ _).alloc _)).row
                    case h1 => rfl
                    case h63 => unfold maxLen; omega
                    case hby => omega
                    case hba => omega
                    intro o3 w7 r7 g7 _ _
                    have O7 : Hid (OwnT w7 wA.heap.size o3 (L ++ [s])) := hid (ownT_of HOB.out.small hsm2.out r7)
                    have M7 : Hid (Mod (fun k => wA.heap.size ≤ k) wr w7) := hid (mod_grownT (HOB.out.new ((Mod.refl _ _).alloc _)) (Nat.le_refl _) ((Mod.refl _ _).alloc _) g7)
                    clear r7 g7
                    go_wp2
                    exact ⟨⟨j + 1, by simp, by omega, by rw [HTK2.out]; exact O7.out, HMB.out.trans M7.out⟩, by simp [intOf]; omega⟩
                · obtain rfl : j = c.all.length := by omega
                  rw [List.take_length, ← filter_add] at HOB
                  go_wp2_with fail
                  exact ⟨⟨k2 + 1, d.addC s, by simp, by omega, HF2.out, by show (d.all ++ [s]).length ≤ k2 + 1; have := HLD.out; rw [List.length_append, List.length_singleton]; omega, HC4.out.mod hmb (by omega) (by omega) (by omega), HOB.out, HM4.out.trans' hmb (fun i _ q => .inr q)⟩, by simp [intOf]; omega⟩
            · have HAD := hid (cAdd_no B2 M2 H2 d s false wq HCD.out hsm hadd)
              obtain ⟨E, hE⟩ : ∃ E, E = d.addE s false := ⟨_, rfl⟩
              rw [← hE] at HAD hadd
              have e4 : (E == 0) = false := by rw [beq_eq_false_iff_ne]; exact hadd
              have e5 : (E != 0) = true := by rw [bne, e4]; rfl
              clear hadd hE hsm
              go_wp2_with fail
              refine HAD.out.mono ?_
              rintro e w4 ⟨rfl, n4⟩
              have HM4 := hid (HMD.out.trans' n4 (S := fun j => j = M2 ∨ wA.heap.size ≤ j) (fun i _ q => q.elim))
              have HC4 := hid (HCD.out.new n4); have HO4 := hid (HOD.out.new n4)
              clear n4
              go_wp2_with fail
              exact ⟨⟨k2 + 1, d, by simp, by omega, HFD.out, by have := HLD.out; omega, HC4.out, HO4.out, HM4.out⟩, by simp [intOf]; omega⟩
          · have hmq := HMD.out
            have HCQ := hid (HC.out.mod hmq (by omega) (by omega) (by omega))
            have FQ := hid (hmq.blk F3.out (by omega))
            have hld := HLD.out
            obtain ⟨av, cv, rfl, hsv, hbv⟩ := HOD.out.strs
            have HBV := hid hbv
            have hcv := hsv.cap
            unfold maxLen at hcv
            have hfd := HFD.out
            have HTB := hid (fun W (q : Mod (fun k => k = B ∨ k = M) wq W) => HV.out.1.new (NQ.out.trans' q (fun i hi q => by omega)))
            have HTL := hid (cTell_any B M H c 0 wq HCQ.out HF.out.fr.ok (by unfold CrV.atE; rw [HF.out.fr.now]; decide) (fun W q => HTB.out W q))
            clear hsv hbv hmd2 hfd hmq
            go_wp2_with fail
            refine HTL.out.mono ?_
            rintro e w5 hp
            rcases tell_first hp HF.out.fr HNA.out (by omega) with ⟨hnil, rfl, n5⟩ | ⟨hne, hvm, he5, hc5, hm5⟩
            · have e0 : ((c.all.length : Int) == 0) = true := by rw [hnil]; rfl
              have N5 := hid (NQ.out.trans n5)
              clear hp hnil n5
              go_wp2_with fail
              refine (HA.out _ (N5.out)).mono ?_
              rintro e w99 ⟨rfl, n9⟩
              have N99 := hid ((N5.out).trans n9)
              clear n9
              go_wp2
              go_ret
              exact ⟨rfl, N99.out⟩
            · have HC5 := hid hc5
              have N5 : Hid (New w w5) := hid (NQ.out.trans' hm5 (fun i hi q => by omega))
              have F5 := hid (hm5.blk FQ.out (by omega))
              have HD5 := hid (HCD.out.mod hm5 (by omega) (by omega) (by omega))
              have HO5 := hid (HOD.out.mod hm5 (fun j hj _ q => by omega))
              have hps := ps_written hvm
              have hwl : (writtenL ⟨c.port, sortB c.all, c.cookie⟩).length ≤ 1400 := written_len hvm
              obtain ⟨OUT, hOUT⟩ : ∃ OUT, OUT = mkB (writtenL ⟨c.port, sortB c.all, c.cookie⟩) := ⟨_, rfl⟩
              have hz : OUT.size ≤ 1400 := by rw [hOUT, mkB_size]; exact hwl
              rw [← hOUT] at hps
              have HPS := hid hps
              have HOUT := hid hOUT
              rw [← hOUT] at he5
              subst he5
              have k0 := F5.out.cellv 0 rfl; have k1 := F5.out.cellv 1 rfl; have k2 := F5.out.cellv 2 rfl
              have hz5 := hm5.size
              have hx5 : (c.tellC 0 (sortB c.all)).atE 0 = 0 := rfl
              clear hp hvm hc5 hm5 hps hwl hOUT
              by_cases hok : adrOk ⟨fam, ip, port⟩ = false
              · have HH := hid (hear_no B M H (c.tellC 0 (sortB c.all)) 0 ⟨fam, ip, port⟩ OUT w5 HC5.out (HV.out.new N5.out) (show ip.size ≤ maxLen by unfold maxLen; omega) (by unfold maxLen; omega) (Int.le_refl _) (by rw [he_bad hok]; decide))
                rw [he_bad hok] at HH
                unfold adr0 at HH
                go_wp2_with fail
                refine HH.out.mono ?_
                rintro e w6 ⟨rfl, n6⟩
                have N6 := hid (N5.out.trans n6)
                have HH2 := hid (hear_no B2 M2 H2 d 0 ⟨fam, ip, port⟩ OUT w6 (HD5.out.new n6) (HV.out.new N6.out) (show ip.size ≤ maxLen by unfold maxLen; omega) (by unfold maxLen; omega) (by rw [HFD.out.fr.now]; exact Int.le_refl _) (by rw [he_bad hok]; decide))
                rw [he_bad hok] at HH2
                unfold adr0 at HH2
                have k0 := New.cellv n6 k0; have k1 := New.cellv n6 k1; have k2 := New.cellv n6 k2
                clear n6
                go_wp2_with fail
                refine HH2.out.mono ?_
                rintro e w7 ⟨rfl, n7⟩
                have N7 := hid (N6.out.trans n7)
                clear n7
                go_wp2_with fail
                refine (HA.out _ (N7.out.alloc _)).mono ?_
                rintro e w99 ⟨rfl, n9⟩
                have N99 := hid ((N7.out.alloc _).trans n9)
                clear n9
                go_wp2
                go_ret
                exact ⟨rfl, N99.out⟩
              · have hok : adrOk ⟨fam, ip, port⟩ = true := by simpa using hok
                have HOK := hid hok
                have hpk : (psM OUT).cookie = c.cookie := by rw [HPS.out.1]
                have he9 : (c.tellC 0 (sortB c.all)).hearE 0 ⟨fam, ip, port⟩ OUT = 9 := he_own hok hz hx5 HPS.out.2.2 hpk
                have HH := hid (hear_no B M H (c.tellC 0 (sortB c.all)) 0 ⟨fam, ip, port⟩ OUT w5 HC5.out (HV.out.new N5.out) (show ip.size ≤ maxLen by unfold maxLen; omega) (by unfold maxLen; omega) (Int.le_refl _) (by rw [he9]; decide))
                rw [he9] at HH
                unfold adr0 at HH
                clear he9
                go_wp2_with fail
                refine HH.out.mono ?_
                rintro e w6 ⟨rfl, n6⟩
                have N6 := hid (N5.out.trans n6)
                have hd6 := HD5.out.new n6
                have HO6 := hid (HO5.out.new n6)
                have hz6 := n6.size
                have k0 := New.cellv n6 k0; have k1 := New.cellv n6 k1; have k2 := New.cellv n6 k2
                have hnm : (psM OUT).names = sortB c.all := by rw [HPS.out.1]
                have hpt : (psM OUT).port = 7 := by rw [HPS.out.1]; exact HF.out.port
                have hckd : (psM OUT).cookie.data ≠ d.cookie.data := by
                  rw [hpk, HF.out.cook, HFD.out.cook]
                  have q := HG6.out
                  rw [toList_eq_iff, beq_eq_false_iff_ne] at q
                  exact q
                have he0 : d.hearE 0 ⟨fam, ip, port⟩ OUT = 0 := he_ok HOK.out hz (by unfold CrV.atE; rw [HFD.out.fr.now]; decide) HPS.out.2.2 hckd (by
                  rw [HFD.out.heard]
                  rintro ⟨-, q⟩
                  exact absurd (show (0 : Int) = 20 from q) (by decide))
                have HY6 := hid (hear_yes B2 M2 H2 d 0 ⟨fam, ip, port⟩ OUT w6 hd6 (HV.out.new N6.out) (show ip.size ≤ maxLen by unfold maxLen; omega) (by rw [HFD.out.fr.now]; exact Int.le_refl _) (fun k => by rw [HFD.out.heard]; exact (show (0 : Int) ≤ 0 ∧ (0 : Int) ≤ 20 from ⟨by decide, by decide⟩)) (by rw [HFD.out.min]; exact Int.le_refl _) he0 (by rw [hnm, sortB_len]; omega) HFD.out.fr.ok.cook.2 (fun n hn => by rw [hnm] at hn; exact HF.out.fr.ok.size n ((sortB_perm _).mem_iff.1 hn)))
                rw [hnm, hpt] at HY6
                clear n6 hd6 hnm hpt hckd he0 hpk
                go_wp2_with fail
                refine HY6.out.mono ?_
                rintro e w7 ⟨H', ag, cg, rfl, hsg, -, hH', hm7, hbg⟩
                have hnd : d.all.Nodup := HCD.out.names.nodup
                have hlf : (d.all.filter (inB c.all)).length ≤ 1000 := by
                  have h1 := List.length_filter_le (inB c.all) d.all
                  omega
                have hbs := both_sort (l := sortB c.all) rfl HNA.out hnd
                have hz7 := hm7.size
                have N7 : Hid (New w w7) := hid (N6.out.trans' hm7 (fun i hi q => by omega))
                have hnB : ¬ (w.heap.size = B2 ∨ w.heap.size = H2) := by omega
                have k0 := Mod.cellv hm7 k0 hnB; have k1 := Mod.cellv hm7 k1 hnB; have k2 := Mod.cellv hm7 k2 hnB
                have HO7 := hid (HO6.out.mod hm7 (fun j hj _ q => by omega))
                have HRD := hid (fun W (n : New w7 W) => ordered_any wA.heap.size _ _ W (HO7.out.new n) hlf (hnd.sublist List.filter_sublist))
                have HSG := hid hsg; have HBG := hid hbg
                have HBS := hid hbs
                clear hm7 hsg hbg hbs
                go_wp2_with fail
                refine (HRD.out _ ((Mod.refl _ _).alloc _)).mono ?_
                rintro e w8 ⟨ag2, cg2, rfl, hso, hmo⟩
                have hmo := hmo _ _ _ rfl
                have hz8 : w7.heap.size + 1 ≤ w8.heap.size := by simpa using hmo.size
                have hnR : ∀ i, i < wA.heap.size ∨ wq.heap.size ≤ i → ¬ (∃ x, av = some x ∧ x.block = i) := fun i hi ⟨x, e, q⟩ => by
                  have h1 := (HBV.out x e).1
                  have h2 := (HBV.out x e).2
                  omega
                have N8 : Hid (New w w8) := hid ((N7.out.alloc _).trans' hmo (fun i hi q => absurd q (hnR i (.inl (by omega)))))
                have hnF := hnR w.heap.size (.inl (by omega))
                have hnA := hnR w7.heap.size (.inr (by omega))
                have j0 := Mod.cellv hmo ((Blk.new w7 #[.int .i64 fam, .string ip, .int .i64 7] 40).cellv 0 rfl) hnA
                have j1 := Mod.cellv hmo ((Blk.new w7 #[.int .i64 fam, .string ip, .int .i64 7] 40).cellv 1 rfl) hnA
                have j2 := Mod.cellv hmo ((Blk.new w7 #[.int .i64 fam, .string ip, .int .i64 7] 40).cellv 2 rfl) hnA
                have nAl : New w7 (w7.alloc (.cells #[.int .i64 fam, .string ip, .int .i64 7] 40)) := (Mod.refl _ _).alloc _
                have k0 := Mod.cellv hmo (New.cellv nAl k0) hnF
                have k1 := Mod.cellv hmo (New.cellv nAl k1) hnF
                have k2 := Mod.cellv hmo (New.cellv nAl k2) hnF
                have hsg8 := (HSG.out.new nAl).far hmo (fun x hx => hnR _ (.inr (by have := HBG.out x hx; omega)))
                rw [HBS.out] at hso ⊢
                have HST := hid (sameTexts_eq ag ag2 cg cg2 _ w8 hsg8 hso)
                clear hsg8 hso hmo nAl
                go_wp2_with fail
                refine HST.out.mono ?_
                rintro e w9 ⟨rfl, n9⟩
                have N9 := hid (N8.out.trans n9)
                have j0 := New.cellv n9 j0; have j1 := New.cellv n9 j1; have j2 := New.cellv n9 j2
                have k0 := New.cellv n9 k0; have k1 := New.cellv n9 k1; have k2 := New.cellv n9 k2
                have q1 : (fam == fam) = true := beq_self_eq_true _
                have q2 : (ip.toList == ip.toList) = true := beq_self_eq_true _
                clear n9
                go_wp2_with fail
                refine (HA.out _ (N9.out)).mono ?_
                rintro e w99 ⟨rfl, n9⟩
                have N99 := hid ((N9.out).trans n9)
                clear n9
                go_wp2
                go_ret
                exact ⟨rfl, N99.out⟩
end Go.Proofs.YtnflhjagmngimaaGreatDoor
