/-
  FilesRow returns true, for every input, its arguments as they were; the three tables of the library tied to the program's text. No condition but the row's own ('laid').
-/
import Derived.Test.YtnccfikimmolgaaDoorLaw5
import Derived.Test.YtnccfikimmolgaaDoorSpQ
import Derived.Test.YtnccfikimmolgaaDoorSpP
import Derived.Test.YtnccfikimmolgaaDoorTie
import Derived.Test.YtnccfikimmolgaaDoorCards
import Derived.SevenTiedAt
namespace Go.Proofs.YtnccfikimmolgaaDoor.filesRow
set_option linter.unusedSimpArgs false
set_option linter.unusedVariables false
open Go.ChangeShapes Go.WideShapes Go.ChangeAt Go.RowKit Go.Deep

theorem want_next {l : List FileV} {new : Bool} {k : Nat} (h : k < l.length) : wantOf new (l.take (k + 1)) = wantOf new (l.take k) + (if !new || !l[k].pad then l[k].len else 0) := by
  unfold wantOf
  rw [List.take_add_one, List.getElem?_eq_getElem h]
  simp only [Option.toList, List.map_append, List.map_cons, List.map_nil, List.sum_append, List.sum_cons, List.sum_nil]
  omega
theorem want_bd {l : List FileV} {new : Bool} (hf : ∀ f ∈ l, 0 ≤ f.len) (k : Nat) : 0 ≤ wantOf new (l.take k) ∧ wantOf new (l.take k) ≤ sumOf l := by
  have h1 := (sum_mono l hf k)
  have : ∀ m : List FileV, (∀ f ∈ m, 0 ≤ f.len) → 0 ≤ wantOf new m ∧ wantOf new m ≤ sumOf m := by
    intro m
    induction m with
    | nil => intro _; simp [wantOf, sumOf]
    | cons f r ih =>
      intro h
      have h1 := ih (fun g hg => h g (.tail _ hg))
      have h2 := h f (.head _)
      simp only [wantOf, sumOf, List.map_cons, List.sum_cons] at *
      split <;> omega
  have h2 := this (l.take k) (fun f hm => hf f (List.mem_of_mem_take hm))
  omega
theorem piece_cnt {l : List FileV} {piece i : Int} {new : Bool} (hb : wayErr l piece = 0) (i0 : 0 ≤ i) (i1 : i < piecesOf l piece new) : (∀ s ∈ spansOf l piece new i, 1 ≤ s.cnt) ∧ 1 ≤ cntOf (spansOf l piece new i) ∧ cntOf (spansOf l piece new i) ≤ piece := by
  obtain ⟨hv, hp⟩ := way_ok hb
  obtain ⟨v1, v2, v3, v4⟩ := valid_facts hv
  obtain ⟨p1, p2⟩ := piece_range hp
  cases new with
  | true =>
    obtain ⟨h1, h2, h3, h4⟩ := apGo_cnt (piece := piece) (by omega) l i 0 (by omega) v3
    exact ⟨h1, h4 i1, h3⟩
  | false =>
    obtain ⟨h1, h2⟩ := rowGo_cnt (i * piece) ((i + 1) * piece) l 0 0 v3
    have e : (i + 1) * piece = i * piece + piece := by rw [Int.add_mul, Int.one_mul]
    have hi : i * piece < sumOf l := by
      have h3 : i + 1 ≤ (sumOf l + piece - 1) / piece := i1
      have h4 := (Int.le_ediv_iff_mul_le (show 0 < piece by omega)).1 h3
      omega
    have hi0 := Int.mul_nonneg i0 (show 0 ≤ piece by omega)
    refine ⟨h1, ?_, ?_⟩
    · show 1 ≤ cntOf (rowGo _ _ 0 0 l); omega
    · show cntOf (rowGo _ _ 0 0 l) ≤ _; omega
theorem at_ok {l : List FileV} {piece : Int} {new : Bool} {i : Int} (hb : wayErr l piece = 0) (i0 : 0 ≤ i) (i1 : i < piecesOf l piece new) : spansErr l piece new i = 0 ∧ spansRes l piece new i = spansOf l piece new i := by
  have e : spansErr l piece new i = 0 := by
    unfold spansErr
    rw [if_pos hb, if_neg (by omega)]
  exact ⟨e, by simp [spansRes, e]⟩
theorem okRow_next {l : List FileV} {new : Bool} {S : List SpanV} {s t : Nat × Int} {j : Nat} (hj : j < S.length) (h : okRow l new s (S.take j) = some t) {s2 : Nat × Int} (h2 : okRow l new s S = some s2) :
    stepOk l new t S[j] = true ∧ okRow l new s (S.take (j + 1)) = some ((skipTo l new t).1, (skipTo l new t).2 + S[j].cnt) := by
  have e : S.take (j + 1) = S.take j ++ [S[j]] := List.take_succ_eq_append_getElem hj
  have h3 : okRow l new s (S.take (j + 1) ++ S.drop (j + 1)) = some s2 := by rw [List.take_append_drop]; exact h2
  obtain ⟨u, h4, -⟩ := okRow_pre h3
  rw [e, okRow_app, h] at h4 ⊢
  simp only [Option.bind_some, okRow] at h4 ⊢
  split at h4
  · next hs => rw [if_pos hs]; exact ⟨hs, rfl⟩
  · cases h4

set_option maxRecDepth 100000 in
set_option maxHeartbeats 8000000 in
theorem law_old (a : Option Addr) (c : Nat) (l : List FileV) (n : Int) (w : World) (h : FilesAt w a c l) (ht : Tab w) (h0 : -9223372036854775808 ≤ n) (h1 : n ≤ 9223372036854775807) :
    Calls Tryd.prog 7 #[.slice a l.length c, .int .i64 n, .bool false] w fun e w' => e = .returned (.bool true) ∧ New w w' := by
  have HL := hid (small_any a c l w h)
  have HA := hid (fun W (n : New w W) => awake_any W (ht.new n))
  cases hv : validOf l with
  | false =>
    have HV := hid (fun W (n : New w W) => (hv ▸ valid_any a c l W (h.new n) (ht.new n) : Calls Tryd.prog 15 #[.slice a l.length c] W fun e w' => e = .returned (.bool false) ∧ New W w'))
    clear h ht hv
    go_enter Tryd.func7, Tryd.ntmps7
    go_wp2_with fail
    refine HL.out.mono ?_
    rintro e w1 ⟨⟨v, rfl⟩, n1⟩
    have N1 := hid n1
    clear n1
    cases v with
    | false =>
      go_wp2_with fail
      refine (HA.out _ N1.out).mono ?_
      rintro e w9 ⟨rfl, n9⟩
      have N9 := hid (N1.out.trans n9)
      clear n9
      go_wp2
      go_ret
      exact ⟨rfl, N9.out⟩
    | true =>
      go_wp2_with fail
      refine (HV.out _ N1.out).mono ?_
      rintro e w2 ⟨rfl, n2⟩
      have N2 := hid (N1.out.trans n2)
      clear n2
      go_wp2_with fail
      refine (HA.out _ N2.out).mono ?_
      rintro e w9 ⟨rfl, n9⟩
      have N9 := hid (N2.out.trans n9)
      clear n9
      go_wp2
      go_ret
      exact ⟨rfl, N9.out⟩
  | true =>
    have HV := hid (fun W (n : New w W) => (hv ▸ valid_any a c l W (h.new n) (ht.new n) : Calls Tryd.prog 15 #[.slice a l.length c] W fun e w' => e = .returned (.bool true) ∧ New W w'))
    cases hp : pieceOf n with
    | false =>
      have HP := hid (fun W => (hp ▸ piece_any n W h0 h1 : Calls Tryd.prog 17 #[.int .i64 n] W fun e w' => e = .returned (.bool false) ∧ W = w'))
      clear h ht hv hp
      go_enter Tryd.func7, Tryd.ntmps7
      go_wp2_with fail
      refine HL.out.mono ?_
      rintro e w1 ⟨⟨v, rfl⟩, n1⟩
      have N1 := hid n1
      clear n1
      cases v with
      | false =>
        go_wp2_with fail
        refine (HA.out _ N1.out).mono ?_
        rintro e w9 ⟨rfl, n9⟩
        have N9 := hid (N1.out.trans n9)
        clear n9
        go_wp2
        go_ret
        exact ⟨rfl, N9.out⟩
      | true =>
        go_wp2_with fail
        refine (HV.out _ N1.out).mono ?_
        rintro e w2 ⟨rfl, n2⟩
        have N2 := hid (N1.out.trans n2)
        clear n2
        go_wp2_with fail
        refine (HP.out _).mono ?_
        rintro e w3 ⟨rfl, rfl⟩
        go_wp2_with fail
        refine (HA.out _ N2.out).mono ?_
        rintro e w9 ⟨rfl, n9⟩
        have N9 := hid (N2.out.trans n9)
        clear n9
        go_wp2
        go_ret
        exact ⟨rfl, N9.out⟩
    | true =>
      have HP := hid (fun W => (hp ▸ piece_any n W h0 h1 : Calls Tryd.prog 17 #[.int .i64 n] W fun e w' => e = .returned (.bool true) ∧ W = w'))
      have hb : wayErr l n = 0 := by simp [wayErr, hv, hp]
      obtain ⟨v1, v2, v3, v4⟩ := valid_facts hv
      obtain ⟨p1, p2⟩ := piece_range hp
      have v5 := each_len v3
      have hle := pieces_le (new := false) hb
      have HPC := hid (fun W (n' : New w W) => Pieces_ok a c l n false W (h.new n') (ht.new n') h0 h1 hb)
      obtain ⟨q, hq⟩ := Int.eq_ofNat_of_zero_le hle.1
      rw [hq] at HPC hle
      have HSP := hid (fun (i : Nat) (hi : (i : Int) < q) W (n' : New w W) => by
        have h2 := Spans_any a c l n i false W (h.new n') (ht.new n') h0 h1
        have h3 := at_ok (new := false) hb (i := (i : Int)) (by omega) (by omega)
        rw [h3.1, h3.2] at h2
        exact h2)
      have HSZ := hid (fun (i : Nat) (hi : (i : Int) < q) W (n' : New w W) => by
        have h2 := Size_any a c l n i false W (h.new n') (ht.new n') h0 h1
        have h3 := at_ok (new := false) hb (i := (i : Int)) (by omega) (by omega)
        rw [h3.1, h3.2] at h2
        exact h2)
      have HCN := hid (fun (i : Nat) (hi : (i : Int) < q) => piece_cnt (new := false) hb (i := (i : Int)) (by omega) (by omega))
      have HRO := hid (rowTo_ok (l := l) (piece := n) (new := false) (by omega) v3 (n := q) (by omega))
      have hsm := rowTo_sum (l := l) (piece := n) (new := false) (by omega) v3
      rw [hq, Int.toNat_natCast] at hsm
      have HSM := hid hsm
      have HBD := hid (fun S s' hS => okRow_bd (l := l) (new := false) (fun g hg => by have := v5 g hg; omega) S (0, 0) s' hS (by simp) (by simp) (by simp))
      have HWB := hid (fun k => want_bd (new := false) v3 k)
      have HV4 := hid v4
      have hz : 0 < l.length := by omega
      have hr1 := h.room; have hr2 := h.cap
      unfold maxLen at hr2
      obtain ⟨b1, o1, rfl, hb1, hc1⟩ := h.get hz
      have HC1 := hid hc1
      have HVF := hid (fun f hf => And.intro (v3 f hf) (v5 f hf))
      have hle2 := hle.2
      clear h ht hv hp hb v1 v3 v4 v5 hle hq hsm hc1
      go_enter Tryd.func7, Tryd.ntmps7
      go_wp2_with fail
      refine HL.out.mono ?_
      rintro e w1 ⟨⟨v, rfl⟩, n1⟩
      have N1 := hid n1
      clear n1
      cases v with
      | false =>
        go_wp2_with fail
        refine (HA.out _ N1.out).mono ?_
        rintro e w9 ⟨rfl, n9⟩
        have N9 := hid (N1.out.trans n9)
        clear n9
        go_wp2
        go_ret
        exact ⟨rfl, N9.out⟩
      | true =>
        go_wp2_with fail
        refine (HV.out _ N1.out).mono ?_
        rintro e w2 ⟨rfl, n2⟩
        have N2 := hid (N1.out.trans n2)
        clear n2
        go_wp2_with fail
        refine (HP.out _).mono ?_
        rintro e w3 ⟨rfl, rfl⟩
        go_wp2_with fail
        refine (HPC.out _ N2.out).mono ?_
        rintro e w3 ⟨rfl, n3⟩
        have N3 := hid (N2.out.trans n3)
        clear n3
        go_wp2
        go_loopw [46, 9, 10, 11] (fun x fi at' su wr => ∃ (i : Nat) (s : Nat × Int) (z : Int), x = .int .i64 i ∧ fi = .int .i64 s.1 ∧ at' = .int .i64 s.2 ∧ su = .int .i64 z ∧ i ≤ q ∧ okRow l false (0, 0) (rowTo l n false i) = some s ∧ z = cntOf (rowTo l n false i) ∧ 0 ≤ z ∧ z ≤ 1024 * i ∧ New w wr) (fun x _ _ _ _ => q - (intOf x).toNat)
        case atStart => exact ⟨0, (0, 0), 0, rfl, rfl, rfl, rfl, by omega, rfl, rfl, by omega, by omega, N3.out⟩
        case round =>
          clear N1 N2 N3
          obtain ⟨i, s, z, rfl, rfl, rfl, rfl, hi, hok, hz', z0, z1, hn⟩ := hrel
          obtain ⟨sb0, sb1, sb2⟩ := HBD.out _ _ hok
          have HOK := hid hok; have HZ := hid hz'; have HN := hid hn
          clear hok hz' hn
          by_cases hlt : i < q
          · have hltI : (i : Int) < q := by omega
            obtain ⟨s2, hs2⟩ := HRO.out (i + 1) (by omega)
            rw [rowTo_next, okRow_app, HOK.out, Option.bind_some] at hs2
            obtain ⟨c0, c1, c2⟩ := HCN.out i hltI
            have HSPi := hid (HSP.out i hltI)
            have HSZi := hid (HSZ.out i hltI)
            have hnx := rowTo_next l n false i
            obtain ⟨S, hS⟩ : ∃ S, S = spansOf l n false i := ⟨_, rfl⟩
            rw [← hS] at hs2 c0 c1 c2 HSPi HSZi hnx
            obtain ⟨Z, hZ⟩ : ∃ Z, Z = cntOf S := ⟨_, rfl⟩
            rw [← hZ] at c1 c2 HSZi
            have HS2 := hid hs2; have HNX := hid hnx; have HZZ := hid hZ; have HC0 := hid c0
            have HCT := hid (fun k => cnt_take (S := S) (fun s hs => by have := c0 s hs; omega) k)
            have HBT := hid (fun j t (hh : okRow l false s (S.take j) = some t) => HBD.out (rowTo l n false i ++ S.take j) t (by rw [okRow_app, HOK.out]; exact hh))
            have hS0 : 0 < S.length := by
              rcases Nat.eq_zero_or_pos S.length with h | h
              · exfalso
                have : S = [] := List.eq_nil_of_length_eq_zero h
                rw [this] at hZ
                simp [cntOf] at hZ
                omega
              · exact h
            clear hs2 hnx hS hZ c0 hltI
            go_wp2_with fail
            refine (HSPi.out _ HN.out).mono ?_
            rintro e w4 ⟨sa, sc, rfl, s4, n4⟩
            have N4 := hid (HN.out.trans n4); have S4 := hid s4
            clear n4 s4
            go_wp2_with fail
            refine (HSZi.out _ N4.out).mono ?_
            rintro e w5 ⟨rfl, n5⟩
            have N5 := hid (N4.out.trans n5); have S5 := S4.out.new n5
            obtain ⟨b2, o2, rfl, hb2, hc2⟩ := S5.get hS0
            have hq1 := S5.room; have hq2 := S5.cap
            unfold maxLen at hq2
            have HC2 := hid hc2
            clear n5 S4 S5 hc2 HSP HSZ HPC HCN HRO HSPi HSZi N4 HN
            go_wp2
            go_loopw [82, 9, 10, 11, 15] (fun x fi at' su ks wr2 => ∃ (j : Nat) (t : Nat × Int) (y k : Int), x = .int .i64 j ∧ fi = .int .i64 t.1 ∧ at' = .int .i64 t.2 ∧ su = .int .i64 y ∧ ks = .int .i64 k ∧ j ≤ S.length ∧ okRow l false s (S.take j) = some t ∧ y = z + cntOf (S.take j) ∧ k = Z - cntOf (S.take j) ∧ New w5 wr2) (fun x _ _ _ _ _ => S.length - (intOf x).toNat)
            case atStart => exact ⟨0, s, z, Z, rfl, rfl, rfl, rfl, rfl, by omega, rfl, by simp [cntOf], by simp [cntOf], Mod.refl _ _⟩
            case round =>
              obtain ⟨j, t, y, k, rfl, rfl, rfl, rfl, rfl, hj, hok, hy, hk, hn2⟩ := hrel
              obtain ⟨tb0, tb1, tb2⟩ := HBT.out j t hok
              have HY := hid hy; have HK := hid hk; have HN2 := hid hn2; have HOK2 := hid hok
              obtain ⟨ct0, ct1⟩ := HCT.out j
              rw [← HZZ.out] at ct1
              have y0 : 0 ≤ y := by omega
              have y1 : y ≤ 1024 * i + 1024 := by omega
              have k0 : 0 ≤ k := by omega
              have k1 : k ≤ 1024 := by omega
              clear hok hy hk ct0 ct1
              by_cases hjt : j < S.length
              · obtain ⟨g0, g1, g2⟩ := HC2.out j hjt
                have g0 := hn2.cellv g0; have g1 := hn2.cellv g1; have g2 := hn2.cellv g2
                obtain ⟨st1, st2⟩ := okRow_next hjt HOK2.out HS2.out
                have hcn := cnt_next hjt
                have hxc := HC0.out _ (List.getElem_mem hjt)
                obtain ⟨ct2, ct3⟩ := HCT.out (j + 1)
                rw [← HZZ.out] at ct3
                obtain ⟨x, hx⟩ : ∃ x, x = S[j] := ⟨_, rfl⟩
                rw [← hx] at g0 g1 g2 st1 st2 hcn hxc
                have hbd := step_bd (l := l) (fun g hg => by have := HVF.out g hg; have := HV4.out; omega) tb0 tb1 tb2 st1
                obtain ⟨sb1', sb2', sb3'⟩ := hbd
                have hst := st1
                simp only [stepOk, Bool.and_eq_true, decide_eq_true_eq, beq_iff_eq] at hst
                obtain ⟨⟨⟨⟨e1, e2⟩, e3⟩, e4⟩, e5⟩ := hst
                have hky : 0 ≤ k - x.cnt ∧ y + x.cnt ≤ 1024 * i + 1024 := by
                  have := HK.out; have := HY.out
                  omega
                obtain ⟨hk2, hy2⟩ := hky
                obtain ⟨V, hV⟩ : ∃ V, V = skipTo l false t := ⟨_, rfl⟩
                rw [← hV] at st2 sb1' sb2' sb3' e1 e2 e4
                have HV := hid hV; have HST2 := hid st2; have HCNX := hid hcn; have HE := hid (And.intro e1 (And.intro e2 e4))
                clear hx st1 st2 hcn ct2 ct3 hV e1 e2 e4 hn2 e5
                go_wp2
                go_loop [9, 10] (fun fi at' => ∃ u : Nat × Int, fi = .int .i64 u.1 ∧ at' = .int .i64 u.2 ∧ u.1 ≤ l.length ∧ 0 ≤ u.2 ∧ u.2 ≤ 65536 ∧ skipTo l false u = V) (fun fi _ => l.length - (intOf fi).toNat)
                case atStart => exact ⟨t, rfl, rfl, tb0, tb1, tb2, HV.out.symm⟩
                case round =>
                  obtain ⟨u, rfl, rfl, u0, u1, u2, hu⟩ := hrel
                  have hul : u.1 < l.length := by
                    rcases Nat.lt_or_ge u.1 l.length with h | h
                    · exact h
                    · have h2 := skipTo_end (new := false) (at' := u.2) h
                      rw [show (u.1, u.2) = u from rfl, hu] at h2
                      rw [h2] at sb1'
                      have sb1'' : u.1 < l.length := sb1'
                      omega
                  have HU := hid hu
                  clear hu
                  obtain ⟨pa, pc, d0, d1, d2, -, -⟩ := (HC1.out u.1 hul).new (N5.out.trans HN2.out)
                  have hbw : b1 < wr.heap.size := by have := (N5.out.trans HN2.out).size; omega
                  have hov := fun h => skipTo_over (l := l) (new := false) (k := u.1) (at' := u.2) hul h
                  have hst := fun h => skipTo_stay (l := l) (new := false) (k := u.1) (at' := u.2) hul h
                  have hla : lenAt l u.1 = l[u.1].len := by simp [lenAt, hul]
                  have hfl := HVF.out _ (List.getElem_mem hul)
                  have hfv := HV4.out
                  obtain ⟨f, hf⟩ : ∃ f, f = l[u.1] := ⟨_, rfl⟩
                  rw [← hf] at d0 d1 d2 hov hst hla hfl
                  have hfl0 := hfl.1
                  have hfl1 : f.len ≤ 65536 := by omega
                  clear hfl hfv
                  have HOV := hid hov; have HST := hid hst; have HLA := hid hla
                  obtain ⟨uf, ua⟩ := u
                  clear hf hov hst hla
                  by_cases he : ua = f.len
                  · subst he
                    have hto := HOV.out (by simp [overF])
                    have HTO := hid (hto.symm.trans HU.out)
                    clear hto
                    go_wp2
                    go_round
                    case rel => exact ⟨(uf + 1, 0), by simp, rfl, by simp only; omega, by simp, by simp, HTO.out⟩
                    case measure => simp [intOf]; omega
                  · cases hnp : (false && f.pad) with
                    | true =>
                      first
                      | (simp at hnp; done)
                      | (have hpad : f.pad = true := by simpa using hnp
                         have hto := HOV.out (by simp [overF, hpad])
                         have HTO := hid (hto.symm.trans HU.out)
                         rw [hpad] at d2
                         clear hto hnp hpad
                         go_wp2
                         go_round
                         case rel => exact ⟨(uf + 1, 0), by simp, rfl, by simp only; omega, by simp, by simp, HTO.out⟩
                         case measure => simp [intOf]; omega)
                    | false =>
                      have hs := HST.out (by simp only [overF, hnp, Bool.or_false]; simpa using he)
                      have hV : V = (uf, ua) := HU.out.symm.trans hs
                      have HVV := hid hV
                      obtain ⟨e1, e2, e4⟩ := HE.out
                      rw [hV] at e1 e2 e4 sb2' sb3'
                      simp only at e1 e2 e4 sb2' sb3'
                      rw [HLA.out] at e4
                      obtain ⟨xf, xr, xc⟩ := x
                      simp only at e1 e2 e3 e4 sb2' sb3' g0 g1 g2 hk2 hy2 hxc
                      subst e1 e2
                      have hd1 : decide (xc < 1) = false := decide_eq_false (by omega)
                      have hd2 : decide (xc ≤ 0) = false := decide_eq_false (by omega)
                      have hd3 : decide (f.len - xr < xc) = false := decide_eq_false (by omega)
                      clear hs hV HE sb1'
                      first
                      | (have hpd : f.pad = false := by simpa using hnp
                         rw [hpd] at d2
                         clear hnp hpd)
                      | clear hnp
                      have hwr : IntKind.i64.wrap (f.len - xr) = f.len - xr := IntWalk.i64_in _ (by omega)
                      go_wp2
                      go_region_held3 (fun w' => w'.cell? ⟨wr.heap.size, 0, none⟩ = some (.int .i64 uf) ∧ w'.cell? ⟨wr.heap.size, 1, none⟩ = some (.int .i64 xr) ∧ w'.cell? ⟨wr.heap.size, 2, none⟩ = some (.int .i64 xc) ∧ w'.cell? ⟨b1, o1 + uf * 3 + 1, none⟩ = some (.int .i64 f.len)) (go_keep) (fail)
                      clear hwr
                      go_wp2
                      exact ⟨⟨j + 1, (uf, xr + xc), y + xc, k - xc, by simp, rfl, rfl, rfl, rfl, by omega, by rw [HST2.out, HVV.out], by rw [HCNX.out, HY.out, Int.add_assoc], by rw [HCNX.out, HK.out]; omega, (HN2.out.alloc _).drew⟩, by simp [intOf]; omega⟩
              · have hjS : S.take j = S := List.take_of_length_le (by omega)
                have hk0 : k = 0 := by
                  have h2 := HK.out
                  rw [hjS, ← HZZ.out] at h2
                  omega
                have hy3 : y = cntOf (rowTo l n false (i + 1)) := by rw [HNX.out, cnt_app, HY.out, HZ.out, hjS]
                have ho3 : okRow l false (0, 0) (rowTo l n false (i + 1)) = some t := by
                  have h2 := HOK2.out
                  rw [hjS] at h2
                  rw [HNX.out, okRow_app, HOK.out]
                  exact h2
                have HY3 := hid hy3; have HO3 := hid ho3
                subst hk0
                clear hjS hy3 ho3 hn2 HK
                go_wp2
                go_roundw
                case rel => exact ⟨i + 1, t, y, by simp, rfl, rfl, rfl, by omega, HO3.out, HY3.out, by omega, by omega, N5.out.trans HN2.out⟩
                case measure => simp [intOf]; omega
          · obtain rfl : i = q := by omega
            have hzw : z = wantOf false l := HZ.out.trans HSM.out
            have HZW := hid hzw
            clear hzw HBD HRO HCN HSP HSZ HPC HOK HZ
            go_wp2
            go_loopw [156, 19] (fun x ws wr2 => ∃ (k : Nat) (m : Int), x = .int .i64 k ∧ ws = .int .i64 m ∧ k ≤ l.length ∧ m = wantOf false (l.take k) ∧ New w wr2) (fun x _ _ => l.length - (intOf x).toNat)
            case atStart => exact ⟨0, 0, rfl, rfl, by omega, by simp [wantOf], HN.out⟩
            case round =>
              clear HN
              obtain ⟨k, m, rfl, rfl, hk, hm, hn⟩ := hrel
              have HN := hid hn; have HM := hid hm
              have hwb := HWB.out k
              rw [← hm] at hwb
              obtain ⟨m0, m1⟩ := hwb
              have hv4 := HV4.out
              have m2 : m ≤ 65536 := by omega
              clear hm m1
              by_cases hkl : k < l.length
              · obtain ⟨pa, pc, d0, d1, d2, -, -⟩ := (HC1.out k hkl).new hn
                have hbw : b1 < wr.heap.size := by have := hn.size; omega
                have hwn := want_next (new := false) hkl
                have hwb := (HWB.out (k + 1)).2
                have hfl := HVF.out _ (List.getElem_mem hkl)
                obtain ⟨f, hf⟩ : ∃ f, f = l[k] := ⟨_, rfl⟩
                rw [← hf] at d0 d1 d2 hwn hfl
                obtain ⟨f0, f1⟩ := hfl
                have f2 : f.len ≤ 65536 := by omega
                rw [← HM.out] at hwn
                clear hf hn f1
                by_cases hw : (!false || !f.pad) = true
                · rw [if_pos hw] at hwn
                  have m3 : m + f.len ≤ 65536 := by omega
                  have HWN := hid hwn
                  clear hwn hwb
                  first
                  | (have hpd : f.pad = false := by simpa using hw
                     rw [hpd] at d2
                     clear hw hpd)
                  | clear hw
                  go_wp2
                  go_roundw
                  case rel => exact ⟨k + 1, m + f.len, by simp, rfl, by omega, HWN.out.symm, HN.out.alloc _⟩
                  case measure => simp [intOf]; omega
                · first
                  | exact absurd rfl hw
                  | (rw [if_neg hw] at hwn
                     have HWN := hid hwn
                     have hpd : f.pad = true := by simpa using hw
                     rw [hpd] at d2
                     clear hw hwn hwb hpd
                     go_wp2
                     go_roundw
                     case rel => exact ⟨k + 1, m, by simp, rfl, by omega, by rw [HWN.out]; omega, HN.out.alloc _⟩
                     case measure => simp [intOf]; omega)
              · have hkl2 : l.take k = l := List.take_of_length_le (by omega)
                have hmz : z = m := by rw [HM.out, hkl2]; exact HZW.out
                subst hmz
                clear hkl2 hn
                go_wp2_with fail
                refine (HA.out _ HN.out).mono ?_
                rintro e w9 ⟨rfl, n9⟩
                have N9 := hid (HN.out.trans n9)
                clear n9
                go_wp2
                go_ret
                exact ⟨rfl, N9.out⟩
set_option maxRecDepth 100000 in
set_option maxHeartbeats 8000000 in
theorem law_new (a : Option Addr) (c : Nat) (l : List FileV) (n : Int) (w : World) (h : FilesAt w a c l) (ht : Tab w) (h0 : -9223372036854775808 ≤ n) (h1 : n ≤ 9223372036854775807) :
    Calls Tryd.prog 7 #[.slice a l.length c, .int .i64 n, .bool true] w fun e w' => e = .returned (.bool true) ∧ New w w' := by
  have HL := hid (small_any a c l w h)
  have HA := hid (fun W (n : New w W) => awake_any W (ht.new n))
  cases hv : validOf l with
  | false =>
    have HV := hid (fun W (n : New w W) => (hv ▸ valid_any a c l W (h.new n) (ht.new n) : Calls Tryd.prog 15 #[.slice a l.length c] W fun e w' => e = .returned (.bool false) ∧ New W w'))
    clear h ht hv
    go_enter Tryd.func7, Tryd.ntmps7
    go_wp2_with fail
    refine HL.out.mono ?_
    rintro e w1 ⟨⟨v, rfl⟩, n1⟩
    have N1 := hid n1
    clear n1
    cases v with
    | false =>
      go_wp2_with fail
      refine (HA.out _ N1.out).mono ?_
      rintro e w9 ⟨rfl, n9⟩
      have N9 := hid (N1.out.trans n9)
      clear n9
      go_wp2
      go_ret
      exact ⟨rfl, N9.out⟩
    | true =>
      go_wp2_with fail
      refine (HV.out _ N1.out).mono ?_
      rintro e w2 ⟨rfl, n2⟩
      have N2 := hid (N1.out.trans n2)
      clear n2
      go_wp2_with fail
      refine (HA.out _ N2.out).mono ?_
      rintro e w9 ⟨rfl, n9⟩
      have N9 := hid (N2.out.trans n9)
      clear n9
      go_wp2
      go_ret
      exact ⟨rfl, N9.out⟩
  | true =>
    have HV := hid (fun W (n : New w W) => (hv ▸ valid_any a c l W (h.new n) (ht.new n) : Calls Tryd.prog 15 #[.slice a l.length c] W fun e w' => e = .returned (.bool true) ∧ New W w'))
    cases hp : pieceOf n with
    | false =>
      have HP := hid (fun W => (hp ▸ piece_any n W h0 h1 : Calls Tryd.prog 17 #[.int .i64 n] W fun e w' => e = .returned (.bool false) ∧ W = w'))
      clear h ht hv hp
      go_enter Tryd.func7, Tryd.ntmps7
      go_wp2_with fail
      refine HL.out.mono ?_
      rintro e w1 ⟨⟨v, rfl⟩, n1⟩
      have N1 := hid n1
      clear n1
      cases v with
      | false =>
        go_wp2_with fail
        refine (HA.out _ N1.out).mono ?_
        rintro e w9 ⟨rfl, n9⟩
        have N9 := hid (N1.out.trans n9)
        clear n9
        go_wp2
        go_ret
        exact ⟨rfl, N9.out⟩
      | true =>
        go_wp2_with fail
        refine (HV.out _ N1.out).mono ?_
        rintro e w2 ⟨rfl, n2⟩
        have N2 := hid (N1.out.trans n2)
        clear n2
        go_wp2_with fail
        refine (HP.out _).mono ?_
        rintro e w3 ⟨rfl, rfl⟩
        go_wp2_with fail
        refine (HA.out _ N2.out).mono ?_
        rintro e w9 ⟨rfl, n9⟩
        have N9 := hid (N2.out.trans n9)
        clear n9
        go_wp2
        go_ret
        exact ⟨rfl, N9.out⟩
    | true =>
      have HP := hid (fun W => (hp ▸ piece_any n W h0 h1 : Calls Tryd.prog 17 #[.int .i64 n] W fun e w' => e = .returned (.bool true) ∧ W = w'))
      have hb : wayErr l n = 0 := by simp [wayErr, hv, hp]
      obtain ⟨v1, v2, v3, v4⟩ := valid_facts hv
      obtain ⟨p1, p2⟩ := piece_range hp
      have v5 := each_len v3
      have hle := pieces_le (new := true) hb
      have HPC := hid (fun W (n' : New w W) => Pieces_ok a c l n true W (h.new n') (ht.new n') h0 h1 hb)
      obtain ⟨q, hq⟩ := Int.eq_ofNat_of_zero_le hle.1
      rw [hq] at HPC hle
      have HSP := hid (fun (i : Nat) (hi : (i : Int) < q) W (n' : New w W) => by
        have h2 := Spans_any a c l n i true W (h.new n') (ht.new n') h0 h1
        have h3 := at_ok (new := true) hb (i := (i : Int)) (by omega) (by omega)
        rw [h3.1, h3.2] at h2
        exact h2)
      have HSZ := hid (fun (i : Nat) (hi : (i : Int) < q) W (n' : New w W) => by
        have h2 := Size_any a c l n i true W (h.new n') (ht.new n') h0 h1
        have h3 := at_ok (new := true) hb (i := (i : Int)) (by omega) (by omega)
        rw [h3.1, h3.2] at h2
        exact h2)
      have HCN := hid (fun (i : Nat) (hi : (i : Int) < q) => piece_cnt (new := true) hb (i := (i : Int)) (by omega) (by omega))
      have HRO := hid (rowTo_ok (l := l) (piece := n) (new := true) (by omega) v3 (n := q) (by omega))
      have hsm := rowTo_sum (l := l) (piece := n) (new := true) (by omega) v3
      rw [hq, Int.toNat_natCast] at hsm
      have HSM := hid hsm
      have HBD := hid (fun S s' hS => okRow_bd (l := l) (new := true) (fun g hg => by have := v5 g hg; omega) S (0, 0) s' hS (by simp) (by simp) (by simp))
      have HWB := hid (fun k => want_bd (new := true) v3 k)
      have HV4 := hid v4
      have hz : 0 < l.length := by omega
      have hr1 := h.room; have hr2 := h.cap
      unfold maxLen at hr2
      obtain ⟨b1, o1, rfl, hb1, hc1⟩ := h.get hz
      have HC1 := hid hc1
      have HVF := hid (fun f hf => And.intro (v3 f hf) (v5 f hf))
      have hle2 := hle.2
      clear h ht hv hp hb v1 v3 v4 v5 hle hq hsm hc1
      go_enter Tryd.func7, Tryd.ntmps7
      go_wp2_with fail
      refine HL.out.mono ?_
      rintro e w1 ⟨⟨v, rfl⟩, n1⟩
      have N1 := hid n1
      clear n1
      cases v with
      | false =>
        go_wp2_with fail
        refine (HA.out _ N1.out).mono ?_
        rintro e w9 ⟨rfl, n9⟩
        have N9 := hid (N1.out.trans n9)
        clear n9
        go_wp2
        go_ret
        exact ⟨rfl, N9.out⟩
      | true =>
        go_wp2_with fail
        refine (HV.out _ N1.out).mono ?_
        rintro e w2 ⟨rfl, n2⟩
        have N2 := hid (N1.out.trans n2)
        clear n2
        go_wp2_with fail
        refine (HP.out _).mono ?_
        rintro e w3 ⟨rfl, rfl⟩
        go_wp2_with fail
        refine (HPC.out _ N2.out).mono ?_
        rintro e w3 ⟨rfl, n3⟩
        have N3 := hid (N2.out.trans n3)
        clear n3
        go_wp2
        go_loopw [46, 9, 10, 11] (fun x fi at' su wr => ∃ (i : Nat) (s : Nat × Int) (z : Int), x = .int .i64 i ∧ fi = .int .i64 s.1 ∧ at' = .int .i64 s.2 ∧ su = .int .i64 z ∧ i ≤ q ∧ okRow l true (0, 0) (rowTo l n true i) = some s ∧ z = cntOf (rowTo l n true i) ∧ 0 ≤ z ∧ z ≤ 1024 * i ∧ New w wr) (fun x _ _ _ _ => q - (intOf x).toNat)
        case atStart => exact ⟨0, (0, 0), 0, rfl, rfl, rfl, rfl, by omega, rfl, rfl, by omega, by omega, N3.out⟩
        case round =>
          clear N1 N2 N3
          obtain ⟨i, s, z, rfl, rfl, rfl, rfl, hi, hok, hz', z0, z1, hn⟩ := hrel
          obtain ⟨sb0, sb1, sb2⟩ := HBD.out _ _ hok
          have HOK := hid hok; have HZ := hid hz'; have HN := hid hn
          clear hok hz' hn
          by_cases hlt : i < q
          · have hltI : (i : Int) < q := by omega
            obtain ⟨s2, hs2⟩ := HRO.out (i + 1) (by omega)
            rw [rowTo_next, okRow_app, HOK.out, Option.bind_some] at hs2
            obtain ⟨c0, c1, c2⟩ := HCN.out i hltI
            have HSPi := hid (HSP.out i hltI)
            have HSZi := hid (HSZ.out i hltI)
            have hnx := rowTo_next l n true i
            obtain ⟨S, hS⟩ : ∃ S, S = spansOf l n true i := ⟨_, rfl⟩
            rw [← hS] at hs2 c0 c1 c2 HSPi HSZi hnx
            obtain ⟨Z, hZ⟩ : ∃ Z, Z = cntOf S := ⟨_, rfl⟩
            rw [← hZ] at c1 c2 HSZi
            have HS2 := hid hs2; have HNX := hid hnx; have HZZ := hid hZ; have HC0 := hid c0
            have HCT := hid (fun k => cnt_take (S := S) (fun s hs => by have := c0 s hs; omega) k)
            have HBT := hid (fun j t (hh : okRow l true s (S.take j) = some t) => HBD.out (rowTo l n true i ++ S.take j) t (by rw [okRow_app, HOK.out]; exact hh))
            have hS0 : 0 < S.length := by
              rcases Nat.eq_zero_or_pos S.length with h | h
              · exfalso
                have : S = [] := List.eq_nil_of_length_eq_zero h
                rw [this] at hZ
                simp [cntOf] at hZ
                omega
              · exact h
            clear hs2 hnx hS hZ c0 hltI
            go_wp2_with fail
            refine (HSPi.out _ HN.out).mono ?_
            rintro e w4 ⟨sa, sc, rfl, s4, n4⟩
            have N4 := hid (HN.out.trans n4); have S4 := hid s4
            clear n4 s4
            go_wp2_with fail
            refine (HSZi.out _ N4.out).mono ?_
            rintro e w5 ⟨rfl, n5⟩
            have N5 := hid (N4.out.trans n5); have S5 := S4.out.new n5
            obtain ⟨b2, o2, rfl, hb2, hc2⟩ := S5.get hS0
            have hq1 := S5.room; have hq2 := S5.cap
            unfold maxLen at hq2
            have HC2 := hid hc2
            clear n5 S4 S5 hc2 HSP HSZ HPC HCN HRO HSPi HSZi N4 HN
            go_wp2
            go_loopw [82, 9, 10, 11, 15] (fun x fi at' su ks wr2 => ∃ (j : Nat) (t : Nat × Int) (y k : Int), x = .int .i64 j ∧ fi = .int .i64 t.1 ∧ at' = .int .i64 t.2 ∧ su = .int .i64 y ∧ ks = .int .i64 k ∧ j ≤ S.length ∧ okRow l true s (S.take j) = some t ∧ y = z + cntOf (S.take j) ∧ k = Z - cntOf (S.take j) ∧ New w5 wr2) (fun x _ _ _ _ _ => S.length - (intOf x).toNat)
            case atStart => exact ⟨0, s, z, Z, rfl, rfl, rfl, rfl, rfl, by omega, rfl, by simp [cntOf], by simp [cntOf], Mod.refl _ _⟩
            case round =>
              obtain ⟨j, t, y, k, rfl, rfl, rfl, rfl, rfl, hj, hok, hy, hk, hn2⟩ := hrel
              obtain ⟨tb0, tb1, tb2⟩ := HBT.out j t hok
              have HY := hid hy; have HK := hid hk; have HN2 := hid hn2; have HOK2 := hid hok
              obtain ⟨ct0, ct1⟩ := HCT.out j
              rw [← HZZ.out] at ct1
              have y0 : 0 ≤ y := by omega
              have y1 : y ≤ 1024 * i + 1024 := by omega
              have k0 : 0 ≤ k := by omega
              have k1 : k ≤ 1024 := by omega
              clear hok hy hk ct0 ct1
              by_cases hjt : j < S.length
              · obtain ⟨g0, g1, g2⟩ := HC2.out j hjt
                have g0 := hn2.cellv g0; have g1 := hn2.cellv g1; have g2 := hn2.cellv g2
                obtain ⟨st1, st2⟩ := okRow_next hjt HOK2.out HS2.out
                have hcn := cnt_next hjt
                have hxc := HC0.out _ (List.getElem_mem hjt)
                obtain ⟨ct2, ct3⟩ := HCT.out (j + 1)
                rw [← HZZ.out] at ct3
                obtain ⟨x, hx⟩ : ∃ x, x = S[j] := ⟨_, rfl⟩
                rw [← hx] at g0 g1 g2 st1 st2 hcn hxc
                have hbd := step_bd (l := l) (fun g hg => by have := HVF.out g hg; have := HV4.out; omega) tb0 tb1 tb2 st1
                obtain ⟨sb1', sb2', sb3'⟩ := hbd
                have hst := st1
                simp only [stepOk, Bool.and_eq_true, decide_eq_true_eq, beq_iff_eq] at hst
                obtain ⟨⟨⟨⟨e1, e2⟩, e3⟩, e4⟩, e5⟩ := hst
                have hky : 0 ≤ k - x.cnt ∧ y + x.cnt ≤ 1024 * i + 1024 := by
                  have := HK.out; have := HY.out
                  omega
                obtain ⟨hk2, hy2⟩ := hky
                obtain ⟨V, hV⟩ : ∃ V, V = skipTo l true t := ⟨_, rfl⟩
                rw [← hV] at st2 sb1' sb2' sb3' e1 e2 e4
                have HV := hid hV; have HST2 := hid st2; have HCNX := hid hcn; have HE := hid (And.intro e1 (And.intro e2 e4))
                clear hx st1 st2 hcn ct2 ct3 hV e1 e2 e4 hn2 e5
                go_wp2
                go_loop [9, 10] (fun fi at' => ∃ u : Nat × Int, fi = .int .i64 u.1 ∧ at' = .int .i64 u.2 ∧ u.1 ≤ l.length ∧ 0 ≤ u.2 ∧ u.2 ≤ 65536 ∧ skipTo l true u = V) (fun fi _ => l.length - (intOf fi).toNat)
                case atStart => exact ⟨t, rfl, rfl, tb0, tb1, tb2, HV.out.symm⟩
                case round =>
                  obtain ⟨u, rfl, rfl, u0, u1, u2, hu⟩ := hrel
                  have hul : u.1 < l.length := by
                    rcases Nat.lt_or_ge u.1 l.length with h | h
                    · exact h
                    · have h2 := skipTo_end (new := true) (at' := u.2) h
                      rw [show (u.1, u.2) = u from rfl, hu] at h2
                      rw [h2] at sb1'
                      have sb1'' : u.1 < l.length := sb1'
                      omega
                  have HU := hid hu
                  clear hu
                  obtain ⟨pa, pc, d0, d1, d2, -, -⟩ := (HC1.out u.1 hul).new (N5.out.trans HN2.out)
                  have hbw : b1 < wr.heap.size := by have := (N5.out.trans HN2.out).size; omega
                  have hov := fun h => skipTo_over (l := l) (new := true) (k := u.1) (at' := u.2) hul h
                  have hst := fun h => skipTo_stay (l := l) (new := true) (k := u.1) (at' := u.2) hul h
                  have hla : lenAt l u.1 = l[u.1].len := by simp [lenAt, hul]
                  have hfl := HVF.out _ (List.getElem_mem hul)
                  have hfv := HV4.out
                  obtain ⟨f, hf⟩ : ∃ f, f = l[u.1] := ⟨_, rfl⟩
                  rw [← hf] at d0 d1 d2 hov hst hla hfl
                  have hfl0 := hfl.1
                  have hfl1 : f.len ≤ 65536 := by omega
                  clear hfl hfv
                  have HOV := hid hov; have HST := hid hst; have HLA := hid hla
                  obtain ⟨uf, ua⟩ := u
                  clear hf hov hst hla
                  by_cases he : ua = f.len
                  · subst he
                    have hto := HOV.out (by simp [overF])
                    have HTO := hid (hto.symm.trans HU.out)
                    clear hto
                    go_wp2
                    go_round
                    case rel => exact ⟨(uf + 1, 0), by simp, rfl, by simp only; omega, by simp, by simp, HTO.out⟩
                    case measure => simp [intOf]; omega
                  · cases hnp : (true && f.pad) with
                    | true =>
                      first
                      | (simp at hnp; done)
                      | (have hpad : f.pad = true := by simpa using hnp
                         have hto := HOV.out (by simp [overF, hpad])
                         have HTO := hid (hto.symm.trans HU.out)
                         rw [hpad] at d2
                         clear hto hnp hpad
                         go_wp2
                         go_round
                         case rel => exact ⟨(uf + 1, 0), by simp, rfl, by simp only; omega, by simp, by simp, HTO.out⟩
                         case measure => simp [intOf]; omega)
                    | false =>
                      have hs := HST.out (by simp only [overF, hnp, Bool.or_false]; simpa using he)
                      have hV : V = (uf, ua) := HU.out.symm.trans hs
                      have HVV := hid hV
                      obtain ⟨e1, e2, e4⟩ := HE.out
                      rw [hV] at e1 e2 e4 sb2' sb3'
                      simp only at e1 e2 e4 sb2' sb3'
                      rw [HLA.out] at e4
                      obtain ⟨xf, xr, xc⟩ := x
                      simp only at e1 e2 e3 e4 sb2' sb3' g0 g1 g2 hk2 hy2 hxc
                      subst e1 e2
                      have hd1 : decide (xc < 1) = false := decide_eq_false (by omega)
                      have hd2 : decide (xc ≤ 0) = false := decide_eq_false (by omega)
                      have hd3 : decide (f.len - xr < xc) = false := decide_eq_false (by omega)
                      clear hs hV HE sb1'
                      first
                      | (have hpd : f.pad = false := by simpa using hnp
                         rw [hpd] at d2
                         clear hnp hpd)
                      | clear hnp
                      have hwr : IntKind.i64.wrap (f.len - xr) = f.len - xr := IntWalk.i64_in _ (by omega)
                      go_wp2
                      go_region_held3 (fun w' => w'.cell? ⟨wr.heap.size, 0, none⟩ = some (.int .i64 uf) ∧ w'.cell? ⟨wr.heap.size, 1, none⟩ = some (.int .i64 xr) ∧ w'.cell? ⟨wr.heap.size, 2, none⟩ = some (.int .i64 xc) ∧ w'.cell? ⟨b1, o1 + uf * 3 + 1, none⟩ = some (.int .i64 f.len)) (go_keep) (fail)
                      clear hwr
                      go_wp2
                      exact ⟨⟨j + 1, (uf, xr + xc), y + xc, k - xc, by simp, rfl, rfl, rfl, rfl, by omega, by rw [HST2.out, HVV.out], by rw [HCNX.out, HY.out, Int.add_assoc], by rw [HCNX.out, HK.out]; omega, (HN2.out.alloc _).drew⟩, by simp [intOf]; omega⟩
              · have hjS : S.take j = S := List.take_of_length_le (by omega)
                have hk0 : k = 0 := by
                  have h2 := HK.out
                  rw [hjS, ← HZZ.out] at h2
                  omega
                have hy3 : y = cntOf (rowTo l n true (i + 1)) := by rw [HNX.out, cnt_app, HY.out, HZ.out, hjS]
                have ho3 : okRow l true (0, 0) (rowTo l n true (i + 1)) = some t := by
                  have h2 := HOK2.out
                  rw [hjS] at h2
                  rw [HNX.out, okRow_app, HOK.out]
                  exact h2
                have HY3 := hid hy3; have HO3 := hid ho3
                subst hk0
                clear hjS hy3 ho3 hn2 HK
                go_wp2
                go_roundw
                case rel => exact ⟨i + 1, t, y, by simp, rfl, rfl, rfl, by omega, HO3.out, HY3.out, by omega, by omega, N5.out.trans HN2.out⟩
                case measure => simp [intOf]; omega
          · obtain rfl : i = q := by omega
            have hzw : z = wantOf true l := HZ.out.trans HSM.out
            have HZW := hid hzw
            clear hzw HBD HRO HCN HSP HSZ HPC HOK HZ
            go_wp2
            go_loopw [156, 19] (fun x ws wr2 => ∃ (k : Nat) (m : Int), x = .int .i64 k ∧ ws = .int .i64 m ∧ k ≤ l.length ∧ m = wantOf true (l.take k) ∧ New w wr2) (fun x _ _ => l.length - (intOf x).toNat)
            case atStart => exact ⟨0, 0, rfl, rfl, by omega, by simp [wantOf], HN.out⟩
            case round =>
              clear HN
              obtain ⟨k, m, rfl, rfl, hk, hm, hn⟩ := hrel
              have HN := hid hn; have HM := hid hm
              have hwb := HWB.out k
              rw [← hm] at hwb
              obtain ⟨m0, m1⟩ := hwb
              have hv4 := HV4.out
              have m2 : m ≤ 65536 := by omega
              clear hm m1
              by_cases hkl : k < l.length
              · obtain ⟨pa, pc, d0, d1, d2, -, -⟩ := (HC1.out k hkl).new hn
                have hbw : b1 < wr.heap.size := by have := hn.size; omega
                have hwn := want_next (new := true) hkl
                have hwb := (HWB.out (k + 1)).2
                have hfl := HVF.out _ (List.getElem_mem hkl)
                obtain ⟨f, hf⟩ : ∃ f, f = l[k] := ⟨_, rfl⟩
                rw [← hf] at d0 d1 d2 hwn hfl
                obtain ⟨f0, f1⟩ := hfl
                have f2 : f.len ≤ 65536 := by omega
                rw [← HM.out] at hwn
                clear hf hn f1
                by_cases hw : (!true || !f.pad) = true
                · rw [if_pos hw] at hwn
                  have m3 : m + f.len ≤ 65536 := by omega
                  have HWN := hid hwn
                  clear hwn hwb
                  first
                  | (have hpd : f.pad = false := by simpa using hw
                     rw [hpd] at d2
                     clear hw hpd)
                  | clear hw
                  go_wp2
                  go_roundw
                  case rel => exact ⟨k + 1, m + f.len, by simp, rfl, by omega, HWN.out.symm, HN.out.alloc _⟩
                  case measure => simp [intOf]; omega
                · first
                  | exact absurd rfl hw
                  | (rw [if_neg hw] at hwn
                     have HWN := hid hwn
                     have hpd : f.pad = true := by simpa using hw
                     rw [hpd] at d2
                     clear hw hwn hwb hpd
                     go_wp2
                     go_roundw
                     case rel => exact ⟨k + 1, m, by simp, rfl, by omega, by rw [HWN.out]; omega, HN.out.alloc _⟩
                     case measure => simp [intOf]; omega)
              · have hkl2 : l.take k = l := List.take_of_length_le (by omega)
                have hmz : z = m := by rw [HM.out, hkl2]; exact HZW.out
                subst hmz
                clear hkl2 hn
                go_wp2_with fail
                refine (HA.out _ HN.out).mono ?_
                rintro e w9 ⟨rfl, n9⟩
                have N9 := hid (HN.out.trans n9)
                clear n9
                go_wp2
                go_ret
                exact ⟨rfl, N9.out⟩
theorem law_any (a : Option Addr) (c : Nat) (l : List FileV) (n : Int) (new : Bool) (w : World) (h : FilesAt w a c l) (ht : Tab w) (h0 : -9223372036854775808 ≤ n) (h1 : n ≤ 9223372036854775807) :
    Calls Tryd.prog 7 #[.slice a l.length c, .int .i64 n, .bool new] w fun e w' => e = .returned (.bool true) ∧ New w w' := by
  cases new with
  | false => exact law_old a c l n w h ht h0 h1
  | true => exact law_new a c l n w h ht h0 h1

set_option maxRecDepth 100000 in
theorem lifted (os : Os) (started : os.Started) (H : Type) (enc : TypeId × Value → H) :
    ReturnsInHanded {} Tryd.checked os 7 .any (fun w args => (Rows.filesRowSpec.pre enc Tryd.prog Tryd.f7 [] false w args ∧ laidMetH Tryd.prog tables w) ∧ sizedMet enc Tryd.prog Tryd.f7 (OpenSpec.ofChange Rows.filesRowSpec) false w args)
      (Rows.filesRowSpec.post enc Tryd.prog Tryd.f7 false true false false) := by
  refine returnsInHanded_of_change_and (C := Tryd.checked) (X := fun w _ => laidMetH Tryd.prog tables w) (fun _ _ _ hh h => h.of_heap hh) own started (by kernel_rfl) Tryd.func7
    (ChangeSpec.witness_shaped (enc := enc) (C := Tryd.checked) (os := os) (X := fun w _ => laidMetH Tryd.prog tables w) false (World.doorLaid Tryd.prog 24 os) #[.slice none 0 0, .int .i64 0, .bool false] 8 rfl (World.shaped_of_RefB (by kernel_rfl) (by kernel_rfl)) (by kernel_rfl) (by kernel_rfl) (by kernel_rfl) (door_met os _)) ?_
  intro W base args ds gs before hval0 hW _ _ hL _
  have hval : ∀ (j : Nat) t v, Tryd.f7.params[j]? = some t → args[j]? = some v → Value.okWide Tryd.prog W .any base t v := hval0
  have hW' := hW
  obtain ⟨p, q, hA0, hV, rfl, hfz, hnd⟩ := hW
  have hA : DataW.TrodAll enc Tryd.prog W 0 (fun _ => true) true Tryd.f7.params.toList args.toList ds p := hA0
  rw [Tryd.params7] at hA hval
  obtain ⟨v0, vs0, d0, ds0, p0, q0, hargs, rfl, rfl, h0, r0⟩ := trodAll_cons hA
  obtain ⟨v1, vs1, d1, ds1, p1, q1, rfl, rfl, rfl, h1, r1⟩ := trodAll_cons r0
  obtain ⟨v2, vs2, d2, ds2, p2, q2, rfl, rfl, rfl, h2, r2⟩ := trodAll_cons r1
  obtain ⟨rfl, rfl, rfl⟩ := trodAll_nil r2
  obtain rfl : args = #[v0, v1, v2] := by cases args; simp_all
  obtain ⟨rfl, rfl⟩ := trodVars_none hV
  have k0 := h0
  have k1 := h1
  have k2 := h2
  have lt0 : ∀ x ∈ p0, x.block < W.heap.size := by obtain ⟨m, hm⟩ := k0; exact DataW.trod_lt m _ _ _ hm
  have lt1 : ∀ x ∈ p1, x.block < W.heap.size := by obtain ⟨m, hm⟩ := k1; exact DataW.trod_lt m _ _ _ hm
  have lt2 : ∀ x ∈ p2, x.block < W.heap.size := by obtain ⟨m, hm⟩ := k2; exact DataW.trod_lt m _ _ _ hm
  obtain ⟨a_l, len_l, c_l, rfl⟩ := okWide_slice Tryd.underlying22 (hval 0 22 v0 rfl rfl)
  obtain ⟨l, hlen_l, h_l⟩ : ∃ l, l.length = len_l ∧ FilesAt W a_l c_l l := by
    obtain ⟨fuel, hf⟩ := h0
    obtain ⟨a', c', l, hcs, hfa⟩ := open_files hf
    simp [Value.cells] at hcs
    obtain ⟨rfl, rfl, rfl⟩ := hcs
    exact ⟨l, rfl, hfa⟩
  subst hlen_l
  obtain ⟨n, rfl, -, -, w_n⟩ := open_int Tryd.underlying3 (hval 1 3 v1 rfl rfl) h1
  obtain ⟨lo_n, hi_n⟩ := wf_bounds w_n
  obtain ⟨b, rfl, -⟩ := open_bool Tryd.underlying4 (hval 2 4 v2 rfl rfl) h2
  have ht := tab_of hL
  clear hA0 hval0
  refine (law_any a_l c_l l n b W h_l ht lo_n hi_n).mono fun e W' ⟨he, hn⟩ => ?_
  subst he
  have bel : Below W.heap.size W W' := hn.below _ (Nat.le_refl _) (fun _ _ x => x)
  exact ⟨_, rfl, _, _, _, [], _, [], hW', trodAll_mk1 (shut_bool Tryd.underlying4 _), (trodAll_cons_mk (Below.trod laidOut (by kernel_rfl) (of_decide_eq_true (by kernel_rfl)) k0 bel lt0) (trodAll_cons_mk (Below.trod laidOut (by kernel_rfl) (of_decide_eq_true (by kernel_rfl)) k1 bel lt1) (trodAll_cons_mk (Below.trod laidOut (by kernel_rfl) (of_decide_eq_true (by kernel_rfl)) k2 bel lt2) trodAll_mk0))), rfl, bel.frame _, fun h => by cases h⟩

theorem over : Rows.FilesRowSaid :=
  OpenClaim.holds_of_wide 7 Tryd.f7 rfl rfl rfl rfl rfl rfl rfl ⟨rfl, rfl, rfl, rfl, rfl⟩ rfl rfl rfl rfl rfl (by kernel_rfl) Tryd.func7 (by kernel_rfl)
    (of_decide_eq_true (by kernel_rfl)) (by unfold Func.isWrapper; first | (rw [if_pos (by decide +kernel)]; kernel_rfl) | (rw [if_neg (by decide +kernel)]; exact ⟨rfl, rfl⟩))
    (fun os started H enc _ => lifted os started H enc)

theorem proved : Rows.FilesRowCardSaid :=
  Claim7.holds_tied_plain_at .later [] [.data, .data, .data] true Rows.filesRowCard.stood.harness true
    over (fun _ h => by cases h) (by kernel_rfl) (fun _ h => by cases h) filesRow_row_tie rfl ⟨rfl, rfl⟩ (by kernel_rfl) rfl
    (fun f fn hf hfn => by
      obtain rfl : f = 7 := Option.some.inj ((show Tryd.prog.funcNamed "covey/coveylaw05.FilesRow" = some 7 by kernel_rfl).symm.trans hf) |>.symm
      obtain rfl : fn = Tryd.f7 := (Option.some.inj (Tryd.func7.symm.trans hfn)).symm
      exact ⟨by kernel_rfl, fun j t ht => by
        rw [Tryd.params7] at ht
        have hm : t ∈ [22, 3, 4] := by simpa using Array.mem_of_getElem? ht
        have hall : ([22, 3, 4].all fun u => !Tryd.prog.wantsStandIn u) = true := by kernel_rfl
        exact (show Tryd.prog.wantsStandIn t = false by simpa using List.all_eq_true.1 hall t hm)⟩)
    (by kernel_rfl)
#print axioms proved
end Go.Proofs.YtnccfikimmolgaaDoor.filesRow
