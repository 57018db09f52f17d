/-
  Several texts in one, in their build order. The walk of files.Parse. Conditions: the text is at most 65536 bytes; the library's variables are as laid.
-/
import Derived.Test.YtnccfikimmolgaaGreatDoorM33
import Derived.Test.YtnccfikimmolgaaGreatDoorM18
namespace Go.Proofs.YtnccfikimmolgaaGreatDoor
set_option linter.unusedSimpArgs false
set_option linter.unusedVariables false
open Go.RowKit Go.Shelf

theorem cutB_len (c : UInt8) : ∀ l : List UInt8, (cutB c l).1.length ≤ l.length ∧ (cutB c l).2.1.length ≤ l.length
  | [] => by simp [cutB]
  | b :: l => by
    obtain ⟨h1, h2⟩ := cutB_len c l
    rw [cutB]
    split
    · simp
    · simp; omega
theorem restOfL_len (L : List UInt8) : (restOfL L).length ≤ L.length := by
  unfold restOfL
  split
  · simp
  · exact Nat.le_refl _
theorem lenP_bounds (ds : List UInt8) : -9223372036854775808 ≤ lenP ds ∧ lenP ds ≤ 9223372036854775807 := by
  unfold lenP
  split <;> omega
theorem cutsuf_one (x : List UInt8) (hx : x.length ≤ 4000000000) : ∃ L wh, L.length ≤ x.length ∧
    lineK x = (if wh && ((cutB 32 (restOfL L)).2.2 && numOk (cutB 32 (restOfL L)).1) then some (padOfL L, (cutB 32 (restOfL L)).1, (cutB 32 (restOfL L)).2.1) else none) ∧
    ∀ w, Calls Tryz.prog 43 #[.string (mkB x), .string ⟨#[10]⟩] w fun e w' => e = .returned (.tuple #[.string (mkB L), .bool wh]) ∧ w = w' := by
  have hsz : (mkB x).size = x.length := size_list x
  have e2 : (⟨#[10]⟩ : ByteArray).data.toList = [10] := rfl
  rcases line_ends x with ⟨L, rfl⟩ | h
  · refine ⟨L, true, by simp, by rw [Bool.true_and]; exact lineK_parts rfl, fun w => (Tryz.strings_CutSuffix (mkB (L ++ [10])) ⟨#[10]⟩ w (by omega)).mono ?_⟩
    rintro e w' ⟨rfl, rfl⟩
    refine ⟨?_, rfl⟩
    have hs : Lib.hasSuffix (L ++ [10]) [10] = true := by simp [Lib.hasSuffix]
    rw [mkB_data, e2, Lib.trimSuffix, hs, if_pos rfl]
    simp [mkB]
  · refine ⟨x, false, Nat.le_refl _, by unfold lineK; rw [if_neg h]; rfl, fun w => (Tryz.strings_CutSuffix (mkB x) ⟨#[10]⟩ w (by omega)).mono ?_⟩
    rintro e w' ⟨rfl, rfl⟩
    refine ⟨?_, rfl⟩
    have hs : Lib.hasSuffix x [10] = false := by
      rw [Bool.eq_false_iff]
      intro q
      obtain ⟨L, rfl⟩ := List.isSuffixOf_iff_suffix.1 q
      exact h (by simp)
    rw [mkB_data, e2, Lib.trimSuffix, hs]
    rfl
theorem cutpre_one (L : List UInt8) (w : World) : Calls Tryz.prog 44 #[.string (mkB L), .string ⟨#[42]⟩] w fun e w' => e = .returned (.tuple #[.string (mkB (restOfL L)), .bool (padOfL L)]) ∧ w = w' := by
  refine (Tryz.strings_CutPrefix (mkB L) ⟨#[42]⟩ w).mono ?_
  rintro e w' ⟨rfl, rfl⟩
  refine ⟨?_, rfl⟩
  have e2 : (⟨#[42]⟩ : ByteArray).data.toList = [42] := rfl
  have hs : Lib.hasPrefix L [42] = padOfL L := by
    unfold Lib.hasPrefix padOfL
    cases L with
    | nil => rfl
    | cons b r =>
      rw [Bool.eq_iff_iff]
      simp [List.isPrefixOf]
      exact eq_comm
  rw [mkB_data, e2, Lib.trimPrefix, hs, restOfL]
  cases padOfL L with
  | true => rw [if_pos rfl, if_pos rfl]; simp [mkB]
  | false => rfl
/-- A line: what the loop computes of it. -/
structure LineW (wr : World) (x L R A B : List UInt8) (wh pd two ok : Bool) (n : Int) : Prop where
  suf : ∀ w, Calls Tryz.prog 43 #[.string (mkB x), .string ⟨#[10]⟩] w fun e w' => e = .returned (.tuple #[.string (mkB L), .bool wh]) ∧ w = w'
  pre : ∀ w, Calls Tryz.prog 44 #[.string (mkB L), .string ⟨#[42]⟩] w fun e w' => e = .returned (.tuple #[.string (mkB R), .bool pd]) ∧ w = w'
  cut : ∀ W, New wr W → Calls Tryz.prog 45 #[.string (mkB R), .string ⟨#[32]⟩] W fun e w' => e = .returned (.tuple #[.string (mkB A), .string (mkB B), .bool two]) ∧ New W w'
  num : ∀ W, New wr W → Calls Tryz.prog 46 #[.string (mkB A)] W fun e w' => e = .returned (.tuple #[.int .i64 n, .bool ok]) ∧ New W w'
  spl : ∀ W, New wr W → Calls Tryz.prog 47 #[.string (mkB B), .string ⟨#[47]⟩] W fun e w' => e = .returned (.slice (some ⟨W.heap.size, 0, none⟩) (pathP B).length (pathP B).length) ∧ StrsAt w' (some ⟨W.heap.size, 0, none⟩) (pathP B).length (pathP B) ∧ New W w' ∧ W.heap.size < w'.heap.size
  told : (lineK x).map fileP = if wh && (two && ok) then some ⟨pathP B, n, pd⟩ else none
  bnd : -9223372036854775808 ≤ n ∧ n ≤ 9223372036854775807
theorem line_facts (wr : World) (hv : Vars wr) (x : List UInt8) (hx : x.length ≤ 65537) : ∃ L R A B wh pd two ok n, LineW wr x L R A B wh pd two ok n := by
  obtain ⟨L, wh, hL, hk, hc⟩ := cutsuf_one x (by omega)
  have h1 := restOfL_len L
  obtain ⟨h2, h3⟩ := cutB_len 32 (restOfL L)
  refine ⟨L, restOfL L, (cutB 32 (restOfL L)).1, (cutB 32 (restOfL L)).2.1, wh, padOfL L, (cutB 32 (restOfL L)).2.2, numOk (cutB 32 (restOfL L)).1, (if numOk (cutB 32 (restOfL L)).1 then lenP (cutB 32 (restOfL L)).1 else numN (cutB 32 (restOfL L)).1), hc, cutpre_one L, fun W n => cutS_any _ 32 W (hv.new n) (by omega), fun W n => ?_, fun W n => split_any _ W (hv.new n) (by omega), ?_, ?_⟩
  · have hsz : (mkB (cutB 32 (restOfL L)).1).size = (cutB 32 (restOfL L)).1.length := size_list _
    have := number_any (mkB (cutB 32 (restOfL L)).1) W (hv.new n) (by omega)
    rw [mkB_data] at this
    refine this.mono ?_
    rintro e w' ⟨rfl, hn⟩
    refine ⟨?_, hn⟩
    split
    · next q =>
      rw [q]
      simp only [numOk, Bool.and_eq_true] at q
      rw [numN, if_pos q.1, if_neg (fun z => by rw [z] at q; exact absurd q.2 (by decide))]
    · rfl
  · rw [hk]
    split
    · next q =>
      simp only [Bool.and_eq_true] at q
      rw [if_pos q.2.2]
      rfl
    · rfl
  · split
    · exact lenP_bounds _
    · unfold numN
      split
      · split
        · omega
        · exact lenP_bounds _
      · omega
theorem linesB_le (s : List UInt8) : ∀ x ∈ linesK s, x.length ≤ s.length + 1 := by
  intro x hx
  have hm : x ∈ pieces [10] 10 s := by
    by_cases h : tailOf s = []
    · rw [linesK_drop h] at hx; exact List.dropLast_subset _ hx
    · rw [linesK_all h] at hx; exact hx
  exact piece_le [10] (by simp) 10 s x hm
set_option maxRecDepth 100000 in
set_option maxHeartbeats 4000000 in
theorem parse_any (s : List UInt8) (w : World) (hv : Vars w) (hs : s.length ≤ 65536) :
    Calls Tryz.prog 20 #[.string (mkB s)] w fun e w' => ∃ a c, e = .returned (.tuple #[.slice a (parseL s).length c, .int .i64 (parseLine s), .int .i64 (parseErr s)]) ∧ FilesAt w' a c (parseL s) ∧ New w w' := by
  have hsz : (mkB s).size = s.length := size_list s
  have HSP := hid (splitAfter_any s w hv (by omega))
  have HBAD := hid (fun k => parse_bad (s := s) (k := k))
  have HGOOD := hid (parse_good (s := s))
  have HLE := hid (linesB_le s)
  have hkl := linesK_le s
  have HVS := hid hv
  obtain ⟨PL, hPL⟩ : ∃ PL, PL = parseL s := ⟨_, rfl⟩
  obtain ⟨PN, hPN⟩ : ∃ PN, PN = parseLine s := ⟨_, rfl⟩
  obtain ⟨PE, hPE⟩ : ∃ PE, PE = parseErr s := ⟨_, rfl⟩
  rw [← hPL, ← hPN, ← hPE] at HBAD HGOOD
  rw [← hPL, ← hPN, ← hPE]
  obtain ⟨t, hT⟩ : ∃ t, t = mkB s := ⟨_, rfl⟩
  rw [← hT] at hsz HSP ⊢
  have htl : (t.size : Int) ≤ 65536 := by omega
  obtain ⟨i0, hi, hz0, hz1, hz2⟩ := info_parts info_file
  by_cases ht : tailOf s = []
  · have hK := linesK_drop ht
    have hlast : (pieces [10] 10 s).length = (linesK s).length + 1 ∧ (linesB s)[(linesK s).length]? = some ⟨#[]⟩ := by
      have e1 := linesK_save s
      rw [ht] at e1
      have e2 : linesK s = (linesOf s).map (· ++ [10]) := by rw [linesK, if_pos ht, List.append_nil]
      rw [← e2] at e1
      unfold linesB
      rw [e1]
      exact ⟨by simp, by simp [mkB]⟩
    obtain ⟨hl1, hl2⟩ := hlast
    have hmap : (linesB s).take (linesK s).length = (linesK s).map mkB := by
      unfold linesB
      rw [← List.map_take, hK, List.length_dropLast, List.dropLast_eq_take]
    have hpl : (linesB s).length = (linesK s).length + 1 := by unfold linesB; rw [List.length_map, hl1]
    obtain ⟨K, hKK⟩ : ∃ K, K = linesK s := ⟨_, rfl⟩
    rw [← hKK] at hl2 hmap hpl HBAD HGOOD HLE hkl
    obtain ⟨N, hN⟩ : ∃ N, K.length = N := ⟨_, rfl⟩
    rw [hN] at hl2 hmap hpl
    rw [hpl] at HSP
    have HL2 := hid hl2
    have HMAP := hid hmap
    clear hv hPL hPN hPE hT ht hK hl1 hl2 hmap hKK hpl
    go_enter Tryz.func20, Tryz.ntmps20
    go_wp2_with fail
    refine HSP.out.mono ?_
    rintro e w1 ⟨a, rfl, hst, n1⟩
    have N1 := hid n1
    clear n1
    obtain ⟨b1, o1, rfl, hb1, hc1⟩ := (show ∃ b o, a = some ⟨b, o, none⟩ ∧ b < w1.heap.size ∧ ∀ (i : Nat) x, (linesB s)[i]? = some x → w1.cell? ⟨b, o + i, none⟩ = some (.string x) from by
      rcases hst.at' with q | q
      · rw [q] at HL2; exact absurd HL2.out (by simp)
      · exact q)
    have hlast := hc1 _ _ HL2.out
    have HC1 : Hid (∀ (k : Nat) (hk : k < K.length), w1.cell? ⟨b1, o1 + k, none⟩ = some (.string (mkB K[k]))) := hid (fun k hk => hc1 k _ (by
      have := congrArg (fun q => q[k]?) HMAP.out
      have hkN : k < N := by omega
      simp only [List.getElem?_take, hkN, if_true, List.getElem?_map, List.getElem?_eq_getElem hk, Option.map_some] at this
      exact this))
    clear hst hc1
    go_wp2
    go_loopw [35, 2] (fun i out wr => ∃ (k : Nat) (E : List EntV) (o : Value), i = .int .i64 k ∧ o = out ∧ k ≤ K.length ∧ E.length = k ∧ E.map (·.f) = filesK (K.take k) ∧ (∀ (j : Nat) (hj : j < K.length), j < k → (lineK K[j]).isSome = true) ∧ Own wr w1.heap.size o E ∧ New w1 wr) (fun i _ _ => K.length - (intOf i).toNat)
    case atStart => exact ⟨0, [], _, rfl, rfl, by omega, rfl, rfl, by omega, Own.nil _ _, Mod.refl _ _⟩
    case round =>
      obtain ⟨k, E, o, rfl, rfl, hk, hel, hE, hoks, hO, hn⟩ := hrel
      have HN := hid hn
      have HE := hid hE
      have HO := hid hO
      have HOKS := hid hoks
      have hszr := hn.size
      clear hE hO hoks
      by_cases hlt : k < K.length
      · have hlt2 : k < N := by omega
        have hcx := hn.cellv (HC1.out k hlt)
        have hxl := HLE.out K[k] (List.getElem_mem hlt)
        obtain ⟨x, hx⟩ : ∃ x, x = K[k] := ⟨_, rfl⟩
        have HX : Hid (K[k] = x) := hid hx.symm
        rw [← hx] at hcx hxl
        clear hx hn
        obtain ⟨L, R, A, B, wh, pd, two, ok, n, hlw⟩ := line_facts wr ((HVS.out.new N1.out).new HN.out) x (by omega)
        have HLW := hid hlw
        clear hlw
        cases wh with
        | false =>
          have HB := hid (HBAD.out k (by have := badK_at K 0 k hlt HOKS.out (by have := HLW.out.told; rw [← Option.isSome_map (f := fileP), HX.out, this]; rfl); rwa [Nat.zero_add] at this))
          go_wp2_with (first | (go_at_call 43; refine (HLW.out.suf _).mono ?_; rintro e w2 ⟨rfl, rfl⟩) | (go_at_call 44; refine (HLW.out.pre _).mono ?_; rintro e w3 ⟨rfl, rfl⟩) | (go_at_call 45; refine (HLW.out.cut _ (Mod.refl _ _)).mono ?_; rintro e w4 ⟨rfl, n4⟩; have N4 := hid n4; clear n4) | (go_at_call 46; refine (HLW.out.num _ N4.out).mono ?_; rintro e w5 ⟨rfl, n5⟩; have N5 := hid (N4.out.trans n5); clear n5))
          go_ret3
          obtain ⟨q1, q2, q3⟩ := HB.out
          subst q1 q2 q3
          exact ⟨none, 0, rfl, ⟨by simp, by decide, .inl rfl⟩, N1.out.trans (HN.out.trans N5.out)⟩
        | true =>
          cases two with
          | false =>
            have HB := hid (HBAD.out k (by have := badK_at K 0 k hlt HOKS.out (by have := HLW.out.told; rw [← Option.isSome_map (f := fileP), HX.out, this]; rfl); rwa [Nat.zero_add] at this))
            go_wp2_with (first | (go_at_call 43; refine (HLW.out.suf _).mono ?_; rintro e w2 ⟨rfl, rfl⟩) | (go_at_call 44; refine (HLW.out.pre _).mono ?_; rintro e w3 ⟨rfl, rfl⟩) | (go_at_call 45; refine (HLW.out.cut _ (Mod.refl _ _)).mono ?_; rintro e w4 ⟨rfl, n4⟩; have N4 := hid n4; clear n4) | (go_at_call 46; refine (HLW.out.num _ N4.out).mono ?_; rintro e w5 ⟨rfl, n5⟩; have N5 := hid (N4.out.trans n5); clear n5))
            go_ret3
            obtain ⟨q1, q2, q3⟩ := HB.out
            subst q1 q2 q3
            exact ⟨none, 0, rfl, ⟨by simp, by decide, .inl rfl⟩, N1.out.trans (HN.out.trans N5.out)⟩
          | true =>
            cases ok with
            | false =>
              have HB := hid (HBAD.out k (by have := badK_at K 0 k hlt HOKS.out (by have := HLW.out.told; rw [← Option.isSome_map (f := fileP), HX.out, this]; rfl); rwa [Nat.zero_add] at this))
              go_wp2_with (first | (go_at_call 43; refine (HLW.out.suf _).mono ?_; rintro e w2 ⟨rfl, rfl⟩) | (go_at_call 44; refine (HLW.out.pre _).mono ?_; rintro e w3 ⟨rfl, rfl⟩) | (go_at_call 45; refine (HLW.out.cut _ (Mod.refl _ _)).mono ?_; rintro e w4 ⟨rfl, n4⟩; have N4 := hid n4; clear n4) | (go_at_call 46; refine (HLW.out.num _ N4.out).mono ?_; rintro e w5 ⟨rfl, n5⟩; have N5 := hid (N4.out.trans n5); clear n5))
              go_ret3
              obtain ⟨q1, q2, q3⟩ := HB.out
              subst q1 q2 q3
              exact ⟨none, 0, rfl, ⟨by simp, by decide, .inl rfl⟩, N1.out.trans (HN.out.trans N5.out)⟩
            | true =>
              have htold := HLW.out.told
              have HLK : Hid ((lineK K[k]).isSome = true) := hid (by rw [← Option.isSome_map (f := fileP), HX.out, htold]; rfl)
              have HT : Hid (filesK (K.take (k + 1)) = filesK (K.take k) ++ [⟨pathP B, n, pd⟩]) := hid (by
                rw [List.take_add_one, List.getElem?_eq_getElem hlt, HX.out]
                unfold filesK
                rw [List.filterMap_append]
                congr 1
                simp only [Option.toList_some, List.filterMap_cons, List.filterMap_nil, htold]
                rfl)
              clear htold
              go_wp2_with (first | (go_at_call 43; refine (HLW.out.suf _).mono ?_; rintro e w2 ⟨rfl, rfl⟩) | (go_at_call 44; refine (HLW.out.pre _).mono ?_; rintro e w3 ⟨rfl, rfl⟩) | (go_at_call 45; refine (HLW.out.cut _ (Mod.refl _ _)).mono ?_; rintro e w4 ⟨rfl, n4⟩; have N4 := hid n4; clear n4) | (go_at_call 46; refine (HLW.out.num _ N4.out).mono ?_; rintro e w5 ⟨rfl, n5⟩; have N5 := hid (N4.out.trans n5); clear n5))
              refine (HLW.out.spl _ N5.out).mono ?_
              rintro e w6 ⟨rfl, hs6, n6, z6⟩
              have HS6 := hid hs6
              have N6 := hid (N5.out.trans n6)
              have Z5 := hid (show wr.heap.size ≤ w5.heap.size from N5.out.size)
              clear hs6 n6
              go_wp2_with ((at_builtin; refine wpList_append_own_at _ rfl _ _ 22 rfl w1.heap.size 51 i0 _ 3 40 Tryz.underlying22 hi hz0 hz1 hz2 rfl (by decide) (o) (E.length) (rowOf (E)) rfl ?owA ⟨w6.heap.size, 0, none⟩ 1 1 [.slice (some ⟨w5.heap.size, 0, none⟩) (pathP B).length (pathP B).length, .int .i64 n, .bool pd] rfl rfl ?hnA ?h1A ?h63A ?hbyA ?hbaA ?_))
              case owA => exact own_len (HO.out.new (N6.out.trans ((Mod.refl _ _).alloc _))) rfl
              case hnA => have := three_new w6 (.slice (some ⟨w5.heap.size, 0, none⟩) (pathP B).length (pathP B).length) (.int .i64 n) (.bool pd) 51; simpa using this
              case h1A => first | exact ⟨rfl, rfl, rfl⟩ | (intro u hu; simp at hu; rcases hu with rfl | rfl | rfl <;> rfl)
              case h63A => unfold maxLen; omega
              case hbyA => omega
              case hbaA => have := N6.out.size; simp; omega
              intro o4 w7 r4 g4 _ l4
              have HO4 := hid (own_next (HO.out.new (N6.out.trans ((Mod.refl _ _).alloc _))) hel ⟨some ⟨w5.heap.size, 0, none⟩, (pathP B).length, ⟨pathP B, n, pd⟩⟩ rfl r4 g4 (by simpa using l4) (HS6.out.alloc _) HLW.out.bnd (.inr ⟨_, rfl, fun q => by have := HO.out.lt _ q.symm; have := Z5.out; simp at *; omega, by simp; omega⟩))
              have HN4 : Hid (New w1 w7) := hid (New.grown ((HN.out.trans N6.out).trans ((Mod.refl _ _).alloc _)) g4 (fun j hj => (HO.out.row.lt j hj).1))
              clear r4 g4 l4
              go_wp2
              refine ⟨⟨k + 1, _, _, by simp, rfl, by omega, by simp [hel], by rw [HT.out, List.map_append, HE.out]; rfl, ?_, HO4.out, HN4.out⟩, by simp [intOf]; omega⟩
              intro j hj hjk
              rcases Nat.lt_succ_iff_lt_or_eq.1 hjk with q | q
              · exact HOKS.out j hj q
              · subst q; exact HLK.out
      · obtain rfl : k = N := by omega
        have hE := HE.out
        rw [List.take_of_length_le (by omega)] at hE
        have hall : badK K 0 = none := badK_none K 0 (fun j hj => HOKS.out j hj (by omega))
        obtain ⟨a', c', rfl, hfa⟩ := HO.out.files
        obtain ⟨-, -, g1, g2, g3⟩ := HGOOD.out hall
        rw [hN] at g2
        rw [hE] at hfa
        obtain ⟨l, hl⟩ : ∃ l, l = filesK K := ⟨_, rfl⟩
        rw [← hl] at hE hfa g1 g2 g3
        have hel2 : E.length = l.length := by rw [← hE, List.length_map]
        rw [hel2]
        have hro := hfa.room; have hca := hfa.cap
        unfold maxLen at hca
        have HFA := hid hfa
        clear hE hall hn hl HE HO HOKS hfa
        cases hvl : validOf l with
        | true =>
          rw [hvl, if_pos rfl] at g1 g2 g3
          have HV := hid (hvl ▸ valid_any a' c' l wr HFA.out ((HVS.out.new N1.out).new HN.out).tab : Calls Tryz.prog 27 #[.slice a' l.length c'] wr fun e w' => e = .returned (.bool true) ∧ New wr w')
          have HG := hid (And.intro g1 (And.intro g2 g3))
          clear hvl g1 g2 g3
          go_wp2_with fail
          refine HV.out.mono ?_
          rintro e w8 ⟨rfl, n8⟩
          have N8 := hid n8
          clear n8
          go_wp2
          go_ret3
          obtain ⟨q1, q2, q3⟩ := HG.out
          subst q1 q2 q3
          exact ⟨a', c', rfl, HFA.out.new N8.out, N1.out.trans (HN.out.trans N8.out)⟩
        | false =>
          rw [hvl, if_neg (by simp)] at g1 g2 g3
          have HV := hid (hvl ▸ valid_any a' c' l wr HFA.out ((HVS.out.new N1.out).new HN.out).tab : Calls Tryz.prog 27 #[.slice a' l.length c'] wr fun e w' => e = .returned (.bool false) ∧ New wr w')
          have HG := hid (And.intro g1 (And.intro g2 g3))
          clear hvl g1 g2 g3
          go_wp2_with fail
          refine HV.out.mono ?_
          rintro e w8 ⟨rfl, n8⟩
          have N8 := hid n8
          clear n8
          go_wp2
          go_ret3
          obtain ⟨q1, q2, q3⟩ := HG.out
          subst q1 q2 q3
          exact ⟨none, 0, rfl, ⟨by simp, by decide, .inl rfl⟩, N1.out.trans (HN.out.trans N8.out)⟩
  · have hK := linesK_all ht
    have hmap : linesB s = (linesK s).map mkB := by
      unfold linesB
      rw [hK]
    obtain ⟨N, hN⟩ : ∃ N, (linesK s).length = N + 1 := by
      have h0 : linesK s ≠ [] := by rw [hK]; exact pieces_ne _ _ _
      exact ⟨(linesK s).length - 1, by have := List.length_pos_iff.2 h0; omega⟩
    have hl2 : (linesB s)[N]? = some (mkB (tailOf s)) := by
      have e1 := linesK_save s
      unfold linesB
      rw [e1]
      have e3 : ((linesOf s).map (· ++ [10]) ++ [tailOf s]).length = N + 1 := by rw [← e1, ← hK]; exact hN
      have e4 : (linesOf s).length = N := by simpa using e3
      rw [List.map_append, List.map_map, List.getElem?_append_right (by simp; omega)]
      simp [e4]
    have hte : (mkB (tailOf s)).toList = tailOf s := by rw [ByteArray.toList_eq]; exact mkB_data _
    have htn : ((mkB (tailOf s)).toList == []) = false := by rw [hte]; simpa using ht
    have htm : (mkB (tailOf s)).toList.isEmpty = false := by rw [hte]; cases h : tailOf s with | nil => exact absurd h ht | cons a b => rfl
    obtain ⟨TL, hTL⟩ : ∃ TL, TL = mkB (tailOf s) := ⟨_, rfl⟩
    rw [← hTL] at hl2 htn htm
    have hpl : (linesB s).length = N + 1 := by rw [hmap, List.length_map, hN]
    obtain ⟨K, hKK⟩ : ∃ K, K = linesK s := ⟨_, rfl⟩
    rw [← hKK] at hmap hN HBAD HGOOD HLE hkl
    rw [hpl] at HSP
    have HL2 := hid hl2
    have HMAP := hid hmap
    clear hv hPL hPN hPE hT ht hK hl2 hmap hKK hpl hte hTL
    go_enter Tryz.func20, Tryz.ntmps20
    go_wp2_with fail
    refine HSP.out.mono ?_
    rintro e w1 ⟨a, rfl, hst, n1⟩
    have N1 := hid n1
    clear n1
    obtain ⟨b1, o1, rfl, hb1, hc1⟩ := (show ∃ b o, a = some ⟨b, o, none⟩ ∧ b < w1.heap.size ∧ ∀ (i : Nat) x, (linesB s)[i]? = some x → w1.cell? ⟨b, o + i, none⟩ = some (.string x) from by
      rcases hst.at' with q | q
      · rw [q] at HL2; exact absurd HL2.out (by simp)
      · exact q)
    have hlast := hc1 _ _ HL2.out
    have HC1 : Hid (∀ (k : Nat) (hk : k < K.length), w1.cell? ⟨b1, o1 + k, none⟩ = some (.string (mkB K[k]))) := hid (fun k hk => hc1 k _ (by
      rw [HMAP.out, List.getElem?_map, List.getElem?_eq_getElem hk]
      rfl))
    clear hst hc1
    go_wp2
    go_loopw [35, 2] (fun i out wr => ∃ (k : Nat) (E : List EntV) (o : Value), i = .int .i64 k ∧ o = out ∧ k ≤ K.length ∧ E.length = k ∧ E.map (·.f) = filesK (K.take k) ∧ (∀ (j : Nat) (hj : j < K.length), j < k → (lineK K[j]).isSome = true) ∧ Own wr w1.heap.size o E ∧ New w1 wr) (fun i _ _ => K.length - (intOf i).toNat)
    case atStart => exact ⟨0, [], _, rfl, rfl, by omega, rfl, rfl, by omega, Own.nil _ _, Mod.refl _ _⟩
    case round =>
      obtain ⟨k, E, o, rfl, rfl, hk, hel, hE, hoks, hO, hn⟩ := hrel
      have HN := hid hn
      have HE := hid hE
      have HO := hid hO
      have HOKS := hid hoks
      have hszr := hn.size
      clear hE hO hoks
      by_cases hlt : k < K.length
      · have hlt2 : k < N + 1 := by omega
        have hcx := hn.cellv (HC1.out k hlt)
        have hxl := HLE.out K[k] (List.getElem_mem hlt)
        obtain ⟨x, hx⟩ : ∃ x, x = K[k] := ⟨_, rfl⟩
        have HX : Hid (K[k] = x) := hid hx.symm
        rw [← hx] at hcx hxl
        clear hx hn
        obtain ⟨L, R, A, B, wh, pd, two, ok, n, hlw⟩ := line_facts wr ((HVS.out.new N1.out).new HN.out) x (by omega)
        have HLW := hid hlw
        clear hlw
        cases wh with
        | false =>
          have HB := hid (HBAD.out k (by have := badK_at K 0 k hlt HOKS.out (by have := HLW.out.told; rw [← Option.isSome_map (f := fileP), HX.out, this]; rfl); rwa [Nat.zero_add] at this))
          go_wp2_with (first | (go_at_call 43; refine (HLW.out.suf _).mono ?_; rintro e w2 ⟨rfl, rfl⟩) | (go_at_call 44; refine (HLW.out.pre _).mono ?_; rintro e w3 ⟨rfl, rfl⟩) | (go_at_call 45; refine (HLW.out.cut _ (Mod.refl _ _)).mono ?_; rintro e w4 ⟨rfl, n4⟩; have N4 := hid n4; clear n4) | (go_at_call 46; refine (HLW.out.num _ N4.out).mono ?_; rintro e w5 ⟨rfl, n5⟩; have N5 := hid (N4.out.trans n5); clear n5))
          go_ret3
          obtain ⟨q1, q2, q3⟩ := HB.out
          subst q1 q2 q3
          exact ⟨none, 0, rfl, ⟨by simp, by decide, .inl rfl⟩, N1.out.trans (HN.out.trans N5.out)⟩
        | true =>
          cases two with
          | false =>
            have HB := hid (HBAD.out k (by have := badK_at K 0 k hlt HOKS.out (by have := HLW.out.told; rw [← Option.isSome_map (f := fileP), HX.out, this]; rfl); rwa [Nat.zero_add] at this))
            go_wp2_with (first | (go_at_call 43; refine (HLW.out.suf _).mono ?_; rintro e w2 ⟨rfl, rfl⟩) | (go_at_call 44; refine (HLW.out.pre _).mono ?_; rintro e w3 ⟨rfl, rfl⟩) | (go_at_call 45; refine (HLW.out.cut _ (Mod.refl _ _)).mono ?_; rintro e w4 ⟨rfl, n4⟩; have N4 := hid n4; clear n4) | (go_at_call 46; refine (HLW.out.num _ N4.out).mono ?_; rintro e w5 ⟨rfl, n5⟩; have N5 := hid (N4.out.trans n5); clear n5))
            go_ret3
            obtain ⟨q1, q2, q3⟩ := HB.out
            subst q1 q2 q3
            exact ⟨none, 0, rfl, ⟨by simp, by decide, .inl rfl⟩, N1.out.trans (HN.out.trans N5.out)⟩
          | true =>
            cases ok with
            | false =>
              have HB := hid (HBAD.out k (by have := badK_at K 0 k hlt HOKS.out (by have := HLW.out.told; rw [← Option.isSome_map (f := fileP), HX.out, this]; rfl); rwa [Nat.zero_add] at this))
              go_wp2_with (first | (go_at_call 43; refine (HLW.out.suf _).mono ?_; rintro e w2 ⟨rfl, rfl⟩) | (go_at_call 44; refine (HLW.out.pre _).mono ?_; rintro e w3 ⟨rfl, rfl⟩) | (go_at_call 45; refine (HLW.out.cut _ (Mod.refl _ _)).mono ?_; rintro e w4 ⟨rfl, n4⟩; have N4 := hid n4; clear n4) | (go_at_call 46; refine (HLW.out.num _ N4.out).mono ?_; rintro e w5 ⟨rfl, n5⟩; have N5 := hid (N4.out.trans n5); clear n5))
              go_ret3
              obtain ⟨q1, q2, q3⟩ := HB.out
              subst q1 q2 q3
              exact ⟨none, 0, rfl, ⟨by simp, by decide, .inl rfl⟩, N1.out.trans (HN.out.trans N5.out)⟩
            | true =>
              have htold := HLW.out.told
              have HLK : Hid ((lineK K[k]).isSome = true) := hid (by rw [← Option.isSome_map (f := fileP), HX.out, htold]; rfl)
              have HT : Hid (filesK (K.take (k + 1)) = filesK (K.take k) ++ [⟨pathP B, n, pd⟩]) := hid (by
                rw [List.take_add_one, List.getElem?_eq_getElem hlt, HX.out]
                unfold filesK
                rw [List.filterMap_append]
                congr 1
                simp only [Option.toList_some, List.filterMap_cons, List.filterMap_nil, htold]
                rfl)
              clear htold
              go_wp2_with (first | (go_at_call 43; refine (HLW.out.suf _).mono ?_; rintro e w2 ⟨rfl, rfl⟩) | (go_at_call 44; refine (HLW.out.pre _).mono ?_; rintro e w3 ⟨rfl, rfl⟩) | (go_at_call 45; refine (HLW.out.cut _ (Mod.refl _ _)).mono ?_; rintro e w4 ⟨rfl, n4⟩; have N4 := hid n4; clear n4) | (go_at_call 46; refine (HLW.out.num _ N4.out).mono ?_; rintro e w5 ⟨rfl, n5⟩; have N5 := hid (N4.out.trans n5); clear n5))
              refine (HLW.out.spl _ N5.out).mono ?_
              rintro e w6 ⟨rfl, hs6, n6, z6⟩
              have HS6 := hid hs6
              have N6 := hid (N5.out.trans n6)
              have Z5 := hid (show wr.heap.size ≤ w5.heap.size from N5.out.size)
              clear hs6 n6
              go_wp2_with ((at_builtin; refine wpList_append_own_at _ rfl _ _ 22 rfl w1.heap.size 51 i0 _ 3 40 Tryz.underlying22 hi hz0 hz1 hz2 rfl (by decide) (o) (E.length) (rowOf (E)) rfl ?owA ⟨w6.heap.size, 0, none⟩ 1 1 [.slice (some ⟨w5.heap.size, 0, none⟩) (pathP B).length (pathP B).length, .int .i64 n, .bool pd] rfl rfl ?hnA ?h1A ?h63A ?hbyA ?hbaA ?_))
              case owA => exact own_len (HO.out.new (N6.out.trans ((Mod.refl _ _).alloc _))) rfl
              case hnA => have := three_new w6 (.slice (some ⟨w5.heap.size, 0, none⟩) (pathP B).length (pathP B).length) (.int .i64 n) (.bool pd) 51; simpa using this
              case h1A => first | exact ⟨rfl, rfl, rfl⟩ | (intro u hu; simp at hu; rcases hu with rfl | rfl | rfl <;> rfl)
              case h63A => unfold maxLen; omega
              case hbyA => omega
              case hbaA => have := N6.out.size; simp; omega
              intro o4 w7 r4 g4 _ l4
              have HO4 := hid (own_next (HO.out.new (N6.out.trans ((Mod.refl _ _).alloc _))) hel ⟨some ⟨w5.heap.size, 0, none⟩, (pathP B).length, ⟨pathP B, n, pd⟩⟩ rfl r4 g4 (by simpa using l4) (HS6.out.alloc _) HLW.out.bnd (.inr ⟨_, rfl, fun q => by have := HO.out.lt _ q.symm; have := Z5.out; simp at *; omega, by simp; omega⟩))
              have HN4 : Hid (New w1 w7) := hid (New.grown ((HN.out.trans N6.out).trans ((Mod.refl _ _).alloc _)) g4 (fun j hj => (HO.out.row.lt j hj).1))
              clear r4 g4 l4
              go_wp2
              refine ⟨⟨k + 1, _, _, by simp, rfl, by omega, by simp [hel], by rw [HT.out, List.map_append, HE.out]; rfl, ?_, HO4.out, HN4.out⟩, by simp [intOf]; omega⟩
              intro j hj hjk
              rcases Nat.lt_succ_iff_lt_or_eq.1 hjk with q | q
              · exact HOKS.out j hj q
              · subst q; exact HLK.out
      · obtain rfl : k = N + 1 := by omega
        have hE := HE.out
        rw [List.take_of_length_le (by omega)] at hE
        have hall : badK K 0 = none := badK_none K 0 (fun j hj => HOKS.out j hj (by omega))
        obtain ⟨a', c', rfl, hfa⟩ := HO.out.files
        obtain ⟨-, -, g1, g2, g3⟩ := HGOOD.out hall
        rw [hN] at g2
        rw [hE] at hfa
        obtain ⟨l, hl⟩ : ∃ l, l = filesK K := ⟨_, rfl⟩
        rw [← hl] at hE hfa g1 g2 g3
        have hel2 : E.length = l.length := by rw [← hE, List.length_map]
        rw [hel2]
        have hro := hfa.room; have hca := hfa.cap
        unfold maxLen at hca
        have HFA := hid hfa
        clear hE hall hn hl HE HO HOKS hfa
        cases hvl : validOf l with
        | true =>
          rw [hvl, if_pos rfl] at g1 g2 g3
          have HV := hid (hvl ▸ valid_any a' c' l wr HFA.out ((HVS.out.new N1.out).new HN.out).tab : Calls Tryz.prog 27 #[.slice a' l.length c'] wr fun e w' => e = .returned (.bool true) ∧ New wr w')
          have HG := hid (And.intro g1 (And.intro g2 g3))
          clear hvl g1 g2 g3
          go_wp2_with fail
          refine HV.out.mono ?_
          rintro e w8 ⟨rfl, n8⟩
          have N8 := hid n8
          clear n8
          go_wp2
          go_ret3
          obtain ⟨q1, q2, q3⟩ := HG.out
          subst q1 q2 q3
          exact ⟨a', c', rfl, HFA.out.new N8.out, N1.out.trans (HN.out.trans N8.out)⟩
        | false =>
          rw [hvl, if_neg (by simp)] at g1 g2 g3
          have HV := hid (hvl ▸ valid_any a' c' l wr HFA.out ((HVS.out.new N1.out).new HN.out).tab : Calls Tryz.prog 27 #[.slice a' l.length c'] wr fun e w' => e = .returned (.bool false) ∧ New wr w')
          have HG := hid (And.intro g1 (And.intro g2 g3))
          clear hvl g1 g2 g3
          go_wp2_with fail
          refine HV.out.mono ?_
          rintro e w8 ⟨rfl, n8⟩
          have N8 := hid n8
          clear n8
          go_wp2
          go_ret3
          obtain ⟨q1, q2, q3⟩ := HG.out
          subst q1 q2 q3
          exact ⟨none, 0, rfl, ⟨by simp, by decide, .inl rfl⟩, N1.out.trans (HN.out.trans N8.out)⟩
theorem parse_long (t : ByteArray) (w : World) (hs : 65536 < t.size) :
    Calls Tryz.prog 20 #[.string t] w fun e w' => e = .returned (.tuple #[.slice none 0 0, .int .i64 0, .int .i64 3]) ∧ New w w' := by
  have htl : (65536 : Int) < (t.size : Int) := by omega
  go_enter Tryz.func20, Tryz.ntmps20
  go_wp2
  go_ret3
  exact ⟨rfl, Mod.refl _ _⟩
end Go.Proofs.YtnccfikimmolgaaGreatDoor
