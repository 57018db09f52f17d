/-
  Several texts in one, in their build order. The walk of the reference's Where, whatever is asked. Condition: the list lies as told.
-/
import Derived.Test.YtnccfikimmolgaaGreatDoorM37
import Derived.Test.YtnccfikimmolgaaGreatDoorM44
import Derived.Test.YtnccfikimmolgaaGreatDoorM43
namespace Go.Proofs.YtnccfikimmolgaaGreatDoor
set_option linter.unusedSimpArgs false
set_option linter.unusedVariables false
open Go.RowKit Go.Shelf

theorem rowGo_fits (lo hi : Int) : ∀ (l : List FileV) (b : Int) (k : Nat), (∀ f ∈ l, 0 ≤ f.len ∧ f.len ≤ 65536) → ∀ s ∈ rowGo lo hi b k l, 0 ≤ s.frm ∧ 0 ≤ s.cnt ∧ s.frm + s.cnt ≤ 65536
  | [], b, k, _, s, h => by simp [rowGo] at h
  | f :: l, b, k, hf, s, h => by
    have hx := hf f (by simp)
    rw [rowGo, List.mem_append] at h
    rcases h with h | h
    · split at h
      · simp at h
        subst h
        simp only
        omega
      · simp at h
    · exact rowGo_fits lo hi l (b + f.len) (k + 1) (fun g hg => hf g (by simp [hg])) s h
theorem apGo_fits {piece : Int} (hp : 0 < piece) : ∀ (l : List FileV) (i : Int) (k : Nat), 0 ≤ i → (∀ f ∈ l, 0 ≤ f.len ∧ f.len ≤ 65536) → ∀ s ∈ apGo piece i k l, 0 ≤ s.frm ∧ 0 ≤ s.cnt ∧ s.frm + s.cnt ≤ 65536
  | [], i, k, _, _, s, h => by simp [apGo] at h
  | f :: l, i, k, hi, hf, s, h => by
    have hx := hf f (by simp)
    rw [apGo] at h
    split at h
    · next hlt =>
      simp at h
      subst h
      simp only
      have hn : hasN f = true := by
        cases e : hasN f with
        | true => rfl
        | false => simp [countOf, e] at hlt; omega
      have hc := count_last hp hn hx.1
      have h1 := Int.mul_le_mul_of_nonneg_right (show i ≤ (f.len - 1) / piece by omega) (show 0 ≤ piece by omega)
      have h2 := Int.ediv_mul_le (f.len - 1) (show piece ≠ 0 by omega)
      have h3 := Int.mul_nonneg hi (show 0 ≤ piece by omega)
      omega
    · next hlt =>
      have := count_nonneg hp hx.1
      exact apGo_fits hp l (i - countOf f piece) (k + 1) (by omega) (fun g hg => hf g (by simp [hg])) s h
theorem span_fits {l : List FileV} {piece : Int} {new : Bool} (hp : 0 < piece) (hf : ∀ f ∈ l, 0 ≤ f.len ∧ f.len ≤ 65536) {i : Int} (hi : 0 ≤ i) : ∀ s ∈ spansOf l piece new i, 0 ≤ s.frm ∧ 0 ≤ s.cnt ∧ s.frm + s.cnt ≤ 65536 := by
  intro s hs
  unfold spansOf at hs
  split at hs
  · exact apGo_fits hp l i 0 hi hf s hs
  · exact rowGo_fits _ _ l 0 0 hf s hs
set_option maxRecDepth 100000 in
set_option maxHeartbeats 4000000 in
theorem rWhere_out (a : Option Addr) (c : Nat) (l : List FileV) (piece file at' : Int) (new : Bool) (w : World) (h : FilesAt w a c l) (h0 : -9223372036854775808 ≤ piece) (h1 : piece ≤ 9223372036854775807) (hb : wayErr l piece = 0) (ho : fileIx l file = none ∨ ∃ f, fileIx l file = some f ∧ (at' < 0 ∨ f.len ≤ at')) :
    Calls Tryz.prog 8 #[.slice a l.length c, .int .i64 piece, .bool new, .int .i64 file, .int .i64 at'] w fun e w' => e = .returned (.tuple #[.int .i64 0, .int .i64 0, .int .i64 7]) ∧ New w w' := by
  have HC := hid (rcheck_any a c l piece w h h0 h1)
  rw [hb] at HC
  have hr := h.room; have hc := h.cap
  unfold maxLen at hc
  have HFA := hid h
  clear h hb
  rcases ho with ho | ⟨f, ho, hat⟩
  · rcases fileIx_none ho with h2 | ⟨h2, h3⟩
    all_goals
      clear ho
      go_enter Tryz.func8, Tryz.ntmps8
      go_wp2_with fail
      refine HC.out.mono ?_
      rintro e w1 ⟨rfl, nw⟩
      have N1 := hid nw
      clear nw
      go_wp2
      go_ret3
      exact ⟨rfl, N1.out⟩
  · obtain ⟨k, rfl, hk, hf⟩ := fileIx_some ho
    obtain ⟨b1, o1, rfl, hb1, hc1⟩ := HFA.out.get (by omega)
    have hkI : (k : Int) < (l.length : Int) := by omega
    have HC1 := hid (fun W (n : New w W) => (hc1 k hk).new n)
    rw [hf] at HC1
    clear ho hf hc1
    rcases hat with h2 | h2
    · go_enter Tryz.func8, Tryz.ntmps8
      go_wp2_with fail
      refine HC.out.mono ?_
      rintro e w1 ⟨rfl, nw⟩
      have N1 := hid nw
      clear nw
      go_wp2
      go_ret3
      exact ⟨rfl, N1.out⟩
    · by_cases h3 : at' < 0
      · go_enter Tryz.func8, Tryz.ntmps8
        go_wp2_with fail
        refine HC.out.mono ?_
        rintro e w1 ⟨rfl, nw⟩
        have N1 := hid nw
        clear nw
        go_wp2
        go_ret3
        exact ⟨rfl, N1.out⟩
      · go_enter Tryz.func8, Tryz.ntmps8
        go_wp2_with fail
        refine HC.out.mono ?_
        rintro e w1 ⟨rfl, nw⟩
        have N1 := hid nw
        obtain ⟨pa, pc, d0, d1, d2, -, -⟩ := HC1.out w1 nw
        clear nw
        go_wp2
        go_ret3
        exact ⟨rfl, N1.out⟩
set_option maxRecDepth 100000 in
set_option maxHeartbeats 4000000 in
theorem rWhere_pad (a : Option Addr) (c : Nat) (l : List FileV) (piece at' : Int) (k : Nat) (w : World) (h : FilesAt w a c l) (h0 : -9223372036854775808 ≤ piece) (h1 : piece ≤ 9223372036854775807) (hb : wayErr l piece = 0) (hk : k < l.length) (a0 : 0 ≤ at') (a1 : at' < l[k].len) (hp : l[k].pad = true) :
    Calls Tryz.prog 8 #[.slice a l.length c, .int .i64 piece, .bool true, .int .i64 k, .int .i64 at'] w fun e w' => e = .returned (.tuple #[.int .i64 0, .int .i64 0, .int .i64 10]) ∧ New w w' := by
  have HC := hid (rcheck_any a c l piece w h h0 h1)
  rw [hb] at HC
  have hr := h.room; have hc := h.cap
  unfold maxLen at hc
  obtain ⟨b1, o1, rfl, hb1, hc1⟩ := h.get (by omega)
  have hkI : (k : Int) < (l.length : Int) := by omega
  have HC1 := hid (fun W (n : New w W) => (hc1 k hk).new n)
  obtain ⟨f, hf⟩ : ∃ f, f = l[k] := ⟨_, rfl⟩
  rw [← hf] at HC1 a1 hp
  have HP := hid hp
  clear h hb hf hc1 hp
  go_enter Tryz.func8, Tryz.ntmps8
  go_wp2_with fail
  refine HC.out.mono ?_
  rintro e w1 ⟨rfl, nw⟩
  have N1 := hid nw
  obtain ⟨pa, pc, d0, d1, d2, -, -⟩ := HC1.out w1 nw
  rw [HP.out] at d2
  clear nw
  go_wp2
  go_ret3
  exact ⟨rfl, N1.out⟩
set_option maxRecDepth 100000 in
set_option maxHeartbeats 4000000 in
theorem rWhere_in (a : Option Addr) (c : Nat) (l : List FileV) (piece at' : Int) (k : Nat) (new : Bool) (w : World) (h : FilesAt w a c l) (h0 : -9223372036854775808 ≤ piece) (h1 : piece ≤ 9223372036854775807) (hb : wayErr l piece = 0) (hk : k < l.length) (a0 : 0 ≤ at') (a1 : at' < l[k].len) (hp : (new && l[k].pad) = false) :
    Calls Tryz.prog 8 #[.slice a l.length c, .int .i64 piece, .bool new, .int .i64 k, .int .i64 at'] w fun e w' => e = .returned (.tuple #[.int .i64 (atI l piece new k at'), .int .i64 (atB l piece new k at'), .int .i64 0]) ∧ New w w' := by
  have HC := hid (rcheck_any a c l piece w h h0 h1)
  obtain ⟨hv, hpp⟩ := way_ok hb
  obtain ⟨v1, v2, v3, v4⟩ := valid_facts hv
  have v5 := each_len v3
  obtain ⟨p1, p2⟩ := piece_range hpp
  have v6 : ∀ f ∈ l, 0 ≤ f.len ∧ f.len ≤ 65536 := fun f hf => ⟨v3 f hf, by have := v5 f hf; omega⟩
  have HCU := hid (fun W (n : New w W) => cut_any a c l piece new W (h.new n) v2 v3 v4 p1 p2)
  have hln := cut_length new hb
  have hle := pieces_le (new := new) hb
  have hbd := atI_bd (piece := piece) (new := new) (by omega) v3 hk a0 a1 hp
  have HAT := hid (fun (j : Nat) (hj : (j : Int) < piecesOf l piece new) => cut_at (new := new) hb (i := j) hj)
  have HFI := hid (fun (i : Int) (hi : 0 ≤ i) => span_find (piece := piece) (new := new) (by omega) v3 hk a0 a1 hp i hi)
  have HFT := hid (fun (i : Int) (hi : 0 ≤ i) => span_fits (piece := piece) (new := new) (by omega) v6 hi)
  have HRB := hid (fun (i : Int) => res_bounds (l := l) (piece := piece) (new := new) (i := i))
  have HSR := hid (fun (i : Int) (h0 : 0 ≤ i) (h1 : i < piecesOf l piece new) => show spansRes l piece new i = spansOf l piece new i by
    have e : spansErr l piece new i = 0 := by simp only [spansErr, hb, if_true, show ¬ (i < 0 ∨ piecesOf l piece new ≤ i) by omega, if_false]
    simp [spansRes, e])
  have hat65 : at' ≤ 65536 := by have := (v6 _ (List.getElem_mem hk)).2; omega
  rw [hb] at HC
  have hr := h.room; have hc := h.cap
  unfold maxLen at hc
  obtain ⟨b1, o1, rfl, hb1, hc1⟩ := h.get (by omega)
  have hkI : (k : Int) < (l.length : Int) := by omega
  have HC1 := hid (fun W (n : New w W) => (hc1 k hk).new n)
  obtain ⟨f, hf⟩ : ∃ f, f = l[k] := ⟨_, rfl⟩
  rw [← hf] at HC1 a1 hp
  obtain ⟨I, hI⟩ : ∃ I, I = atI l piece new k at' := ⟨_, rfl⟩
  obtain ⟨B, hB⟩ : ∃ B, B = atB l piece new k at' := ⟨_, rfl⟩
  rw [← hI, ← hB] at HFI ⊢
  rw [← hI] at hbd
  obtain ⟨b0, b1'⟩ := hbd
  obtain ⟨pn, hpn⟩ : ∃ pn, pn = piecesOf l piece new := ⟨_, rfl⟩
  obtain ⟨R, hR⟩ : ∃ R, R = cutOf l piece new := ⟨_, rfl⟩
  rw [← hpn] at hln hle b1' HAT HSR
  rw [← hR] at hln HAT HCU
  have hRI : I < (R.length : Int) := by omega
  have hR7 : (R.length : Int) ≤ 70000 := by omega
  have HLN := hid hln
  have HP := hid hp
  clear h hb hf hc1 hI hB hpn hR hv hpp v1 v2 v3 v4 v5 v6 hln hle b1' hp
  go_enter Tryz.func8, Tryz.ntmps8
  go_wp2_with fail
  refine HC.out.mono ?_
  rintro e w1 ⟨rfl, nw⟩
  have N1 := hid nw
  obtain ⟨pa, pc, d0, d1, d2, -, -⟩ := HC1.out w1 nw
  have hnp : new = false ∨ (new = true ∧ f.pad = false) := by have := HP.out; cases new <;> simp_all
  clear nw
  rcases hnp with hq | ⟨hq2, hq⟩
  · subst hq
    go_wp2_with fail
    refine (HCU.out _ N1.out).mono ?_
    rintro e w2 ⟨v, vs, rfl, hO, n2⟩
    obtain ⟨ra, rc, rfl, hr1, hr2, hr3⟩ := hO.rows
    unfold maxLen at hr2
    rcases hr3 with hr3 | ⟨g, rfl, hg, hrow⟩
    · subst hr3; simp at hRI; omega
    have N2 := hid (N1.out.trans n2)
    have HROW := hid hrow
    clear n2 hO hrow d0 d1 d2
    go_wp2
    go_loopw [61] (fun x wr => ∃ j : Nat, x = .int .i64 j ∧ (j : Int) ≤ I ∧ New w2 wr) (fun x _ => R.length - (intOf x).toNat)
    case atStart => exact ⟨0, rfl, by omega, Mod.refl _ _⟩
    case round =>
      obtain ⟨j, rfl, hj, hn⟩ := hrel
      have hjR : j < R.length := by omega
      obtain ⟨sa, sc, hc0, hsp⟩ := HROW.out j hjR
      have hc0 := hn.cellv hc0
      have hsp := hsp.new hn
      have hjp : (j : Int) < pn := by have := HLN.out; omega
      have hS := HAT.out j hjp
      rw [List.getElem?_eq_getElem hjR] at hS
      have hS := Option.some.inj hS
      have hfi := HFI.out j (by omega)
      have hft := HFT.out j (by omega)
      have hrb := HRB.out j
      rw [HSR.out j (by omega) hjp, ← hS] at hrb
      rw [← hS] at hfi hft
      obtain ⟨S, hSS⟩ : ∃ S, S = R[j] := ⟨_, rfl⟩
      rw [← hSS] at hc0 hsp hfi hft hrb
      have HCB := hid (fun i => cnt_take hrb.1 i)
      have hrb2 := hrb.2
      have HN := hid hn; have HFD := hid hfi; have HFF := hid hft; have HSP := hid hsp
      have hsr := hsp.room; have hsc := hsp.cap
      unfold maxLen at hsc
      have hgw : g < wr.heap.size := by have := hn.size; omega
      have hjI : (j : Int) < (R.length : Int) := by omega
      clear hn hS hfi hft hrb hSS hsp
      go_wp2
      obtain ⟨wo, rfl⟩ : ∃ wo : World, wo = wr := ⟨_, rfl⟩
      go_loopw [68, 16] (fun x nn wr => ∃ (i : Nat) (n : Int), x = .int .i64 i ∧ nn = .int .i64 n ∧ i ≤ S.length ∧ n = cntOf (S.take i) ∧ findIn (k : Int) at' (S.drop i) n = findIn (k : Int) at' S 0 ∧ 0 ≤ n ∧ n ≤ 65536 ∧ New wo wr) (fun x _ _ => S.length - (intOf x).toNat)
      case atStart => exact ⟨0, 0, rfl, rfl, by omega, by simp [cntOf], by simp, by omega, by omega, Mod.refl _ _⟩
      case round =>
        obtain ⟨i, n, rfl, rfl, hi, hnc, hfd, hn0, hn1, hn⟩ := hrel
        have HNC := hid hnc
        clear hnc
        by_cases hlt : i < S.length
        · obtain ⟨b3, o3, rfl, hb3, hc3⟩ := HSP.out.get (by omega)
          obtain ⟨g0, g1, g2⟩ := hc3 i hlt
          have g0 := hn.cellv g0; have g1 := hn.cellv g1; have g2 := hn.cellv g2
          have hcx := cnt_next hlt
          have hcb := HCB.out (i + 1)
          have hfit := HFF.out _ (List.getElem_mem hlt)
          rw [List.drop_eq_getElem_cons hlt] at hfd
          obtain ⟨s, hs⟩ : ∃ s, s = S[i] := ⟨_, rfl⟩
          rw [← hs] at g0 g1 g2 hcx hfit hfd
          rw [← HNC.out] at hcx
          have hbw3 : b3 < wr.heap.size := by have := hn.size; omega
          have HN2 := hid (HN.out.trans hn)
          have HNW := hid hn
          clear hc3 hs hn
          obtain ⟨sf, sr, sc⟩ := s
          simp only at g0 g1 g2 hcx hfit
          obtain ⟨t0, t1, t2⟩ := hfit
          by_cases hm : sf = k ∧ sr ≤ at' ∧ at' < sr + sc
          · rw [findIn, if_pos hm, HFD.out] at hfd
            have hji : (j : Int) = I ∧ n + at' - sr = B := by
              by_cases e : (j : Int) = I
              · rw [if_pos e] at hfd
                exact ⟨e, Option.some.inj hfd⟩
              · rw [if_neg e] at hfd
                cases hfd
            obtain ⟨rfl, m1, m2⟩ := hm
            have HJI := hid hji
            have hw1 : IntKind.i64.wrap (n + at') = n + at' := IntWalk.i64_in _ (by omega)
            have hw2 : IntKind.i64.wrap (n + at' - sr) = n + at' - sr := IntWalk.i64_in _ (by omega)
            have e1 : decide (sr ≤ at') = true := decide_eq_true m1
            have e2 : decide (at' < sr + sc) = true := decide_eq_true m2
            clear hfd hcx hcb hji
            go_wp2
            go_region_held3 (fun w' => w'.cell? ⟨wr.heap.size, 1, none⟩ = some (.int .i64 sr)) (go_keep) (fail)
            clear hw1 hw2
            go_wp2
            go_ret3
            exact ⟨ret_3 HJI.out.1 HJI.out.2 rfl, N2.out.trans ((HN2.out.alloc _).drew)⟩
          · rw [findIn, if_neg hm] at hfd
            have HFX := hid hfd
            have hx : n + sc ≤ 65536 := by omega
            have HCX := hid hcx
            have hor : sf ≠ (k : Int) ∨ (sf = k ∧ at' < sr) ∨ (sf = k ∧ sr ≤ at' ∧ sr + sc ≤ at') := by omega
            clear hfd hcx hcb hm
            rcases hor with q1 | ⟨rfl, q2⟩ | ⟨rfl, q2, q3⟩
            · have e1 : (sf == (k : Int)) = false := by simpa using q1
              clear q1
              go_wp2
              go_roundw
              case rel => exact ⟨i + 1, n + sc, by simp, rfl, by omega, HCX.out.symm, HFX.out, by omega, hx, HNW.out.alloc _⟩
              case measure => simp [intOf]; omega
            · have e1 : decide (sr ≤ at') = false := decide_eq_false (by omega)
              go_wp2
              go_roundw
              case rel => exact ⟨i + 1, n + sc, by simp, rfl, by omega, HCX.out.symm, HFX.out, by omega, hx, HNW.out.alloc _⟩
              case measure => simp [intOf]; omega
            · have e1 : decide (sr ≤ at') = true := decide_eq_true q2
              have e2 : decide (at' < sr + sc) = false := decide_eq_false (by omega)
              go_wp2
              go_roundw
              case rel => exact ⟨i + 1, n + sc, by simp, rfl, by omega, HCX.out.symm, HFX.out, by omega, hx, HNW.out.alloc _⟩
              case measure => simp [intOf]; omega
        · have hil : S.drop i = [] := List.drop_eq_nil_of_le (by omega)
          rw [hil, findIn, HFD.out] at hfd
          have hjn : (j : Int) ≠ I := by
            intro e
            rw [if_pos e] at hfd
            cases hfd
          have HN2 := hid (HN.out.trans hn)
          clear hfd hil hn
          go_wp2
          go_roundw
          case rel => exact ⟨j + 1, by simp, by omega, HN2.out⟩
          case measure => simp [intOf]; omega
  · subst hq2
    rw [hq] at d2
    clear hq
    go_wp2_with fail
    refine (HCU.out _ N1.out).mono ?_
    rintro e w2 ⟨v, vs, rfl, hO, n2⟩
    obtain ⟨ra, rc, rfl, hr1, hr2, hr3⟩ := hO.rows
    unfold maxLen at hr2
    rcases hr3 with hr3 | ⟨g, rfl, hg, hrow⟩
    · subst hr3; simp at hRI; omega
    have N2 := hid (N1.out.trans n2)
    have HROW := hid hrow
    clear n2 hO hrow d0 d1 d2
    go_wp2
    go_loopw [61] (fun x wr => ∃ j : Nat, x = .int .i64 j ∧ (j : Int) ≤ I ∧ New w2 wr) (fun x _ => R.length - (intOf x).toNat)
    case atStart => exact ⟨0, rfl, by omega, Mod.refl _ _⟩
    case round =>
      obtain ⟨j, rfl, hj, hn⟩ := hrel
      have hjR : j < R.length := by omega
      obtain ⟨sa, sc, hc0, hsp⟩ := HROW.out j hjR
      have hc0 := hn.cellv hc0
      have hsp := hsp.new hn
      have hjp : (j : Int) < pn := by have := HLN.out; omega
      have hS := HAT.out j hjp
      rw [List.getElem?_eq_getElem hjR] at hS
      have hS := Option.some.inj hS
      have hfi := HFI.out j (by omega)
      have hft := HFT.out j (by omega)
      have hrb := HRB.out j
      rw [HSR.out j (by omega) hjp, ← hS] at hrb
      rw [← hS] at hfi hft
      obtain ⟨S, hSS⟩ : ∃ S, S = R[j] := ⟨_, rfl⟩
      rw [← hSS] at hc0 hsp hfi hft hrb
      have HCB := hid (fun i => cnt_take hrb.1 i)
      have hrb2 := hrb.2
      have HN := hid hn; have HFD := hid hfi; have HFF := hid hft; have HSP := hid hsp
      have hsr := hsp.room; have hsc := hsp.cap
      unfold maxLen at hsc
      have hgw : g < wr.heap.size := by have := hn.size; omega
      have hjI : (j : Int) < (R.length : Int) := by omega
      clear hn hS hfi hft hrb hSS hsp
      go_wp2
      obtain ⟨wo, rfl⟩ : ∃ wo : World, wo = wr := ⟨_, rfl⟩
      go_loopw [68, 16] (fun x nn wr => ∃ (i : Nat) (n : Int), x = .int .i64 i ∧ nn = .int .i64 n ∧ i ≤ S.length ∧ n = cntOf (S.take i) ∧ findIn (k : Int) at' (S.drop i) n = findIn (k : Int) at' S 0 ∧ 0 ≤ n ∧ n ≤ 65536 ∧ New wo wr) (fun x _ _ => S.length - (intOf x).toNat)
      case atStart => exact ⟨0, 0, rfl, rfl, by omega, by simp [cntOf], by simp, by omega, by omega, Mod.refl _ _⟩
      case round =>
        obtain ⟨i, n, rfl, rfl, hi, hnc, hfd, hn0, hn1, hn⟩ := hrel
        have HNC := hid hnc
        clear hnc
        by_cases hlt : i < S.length
        · obtain ⟨b3, o3, rfl, hb3, hc3⟩ := HSP.out.get (by omega)
          obtain ⟨g0, g1, g2⟩ := hc3 i hlt
          have g0 := hn.cellv g0; have g1 := hn.cellv g1; have g2 := hn.cellv g2
          have hcx := cnt_next hlt
          have hcb := HCB.out (i + 1)
          have hfit := HFF.out _ (List.getElem_mem hlt)
          rw [List.drop_eq_getElem_cons hlt] at hfd
          obtain ⟨s, hs⟩ : ∃ s, s = S[i] := ⟨_, rfl⟩
          rw [← hs] at g0 g1 g2 hcx hfit hfd
          rw [← HNC.out] at hcx
          have hbw3 : b3 < wr.heap.size := by have := hn.size; omega
          have HN2 := hid (HN.out.trans hn)
          have HNW := hid hn
          clear hc3 hs hn
          obtain ⟨sf, sr, sc⟩ := s
          simp only at g0 g1 g2 hcx hfit
          obtain ⟨t0, t1, t2⟩ := hfit
          by_cases hm : sf = k ∧ sr ≤ at' ∧ at' < sr + sc
          · rw [findIn, if_pos hm, HFD.out] at hfd
            have hji : (j : Int) = I ∧ n + at' - sr = B := by
              by_cases e : (j : Int) = I
              · rw [if_pos e] at hfd
                exact ⟨e, Option.some.inj hfd⟩
              · rw [if_neg e] at hfd
                cases hfd
            obtain ⟨rfl, m1, m2⟩ := hm
            have HJI := hid hji
            have hw1 : IntKind.i64.wrap (n + at') = n + at' := IntWalk.i64_in _ (by omega)
            have hw2 : IntKind.i64.wrap (n + at' - sr) = n + at' - sr := IntWalk.i64_in _ (by omega)
            have e1 : decide (sr ≤ at') = true := decide_eq_true m1
            have e2 : decide (at' < sr + sc) = true := decide_eq_true m2
            clear hfd hcx hcb hji
            go_wp2
            go_region_held3 (fun w' => w'.cell? ⟨wr.heap.size, 1, none⟩ = some (.int .i64 sr)) (go_keep) (fail)
            clear hw1 hw2
            go_wp2
            go_ret3
            exact ⟨ret_3 HJI.out.1 HJI.out.2 rfl, N2.out.trans ((HN2.out.alloc _).drew)⟩
          · rw [findIn, if_neg hm] at hfd
            have HFX := hid hfd
            have hx : n + sc ≤ 65536 := by omega
            have HCX := hid hcx
            have hor : sf ≠ (k : Int) ∨ (sf = k ∧ at' < sr) ∨ (sf = k ∧ sr ≤ at' ∧ sr + sc ≤ at') := by omega
            clear hfd hcx hcb hm
            rcases hor with q1 | ⟨rfl, q2⟩ | ⟨rfl, q2, q3⟩
            · have e1 : (sf == (k : Int)) = false := by simpa using q1
              clear q1
              go_wp2
              go_roundw
              case rel => exact ⟨i + 1, n + sc, by simp, rfl, by omega, HCX.out.symm, HFX.out, by omega, hx, HNW.out.alloc _⟩
              case measure => simp [intOf]; omega
            · have e1 : decide (sr ≤ at') = false := decide_eq_false (by omega)
              go_wp2
              go_roundw
              case rel => exact ⟨i + 1, n + sc, by simp, rfl, by omega, HCX.out.symm, HFX.out, by omega, hx, HNW.out.alloc _⟩
              case measure => simp [intOf]; omega
            · have e1 : decide (sr ≤ at') = true := decide_eq_true q2
              have e2 : decide (at' < sr + sc) = false := decide_eq_false (by omega)
              go_wp2
              go_roundw
              case rel => exact ⟨i + 1, n + sc, by simp, rfl, by omega, HCX.out.symm, HFX.out, by omega, hx, HNW.out.alloc _⟩
              case measure => simp [intOf]; omega
        · have hil : S.drop i = [] := List.drop_eq_nil_of_le (by omega)
          rw [hil, findIn, HFD.out] at hfd
          have hjn : (j : Int) ≠ I := by
            intro e
            rw [if_pos e] at hfd
            cases hfd
          have HN2 := hid (HN.out.trans hn)
          clear hfd hil hn
          go_wp2
          go_roundw
          case rel => exact ⟨j + 1, by simp, by omega, HN2.out⟩
          case measure => simp [intOf]; omega
theorem rWhere_any (a : Option Addr) (c : Nat) (l : List FileV) (piece file at' : Int) (new : Bool) (w : World) (h : FilesAt w a c l) (h0 : -9223372036854775808 ≤ piece) (h1 : piece ≤ 9223372036854775807) :
    Calls Tryz.prog 8 #[.slice a l.length c, .int .i64 piece, .bool new, .int .i64 file, .int .i64 at'] w fun e w' => e = .returned (.tuple #[.int .i64 (placeI l piece new file at'), .int .i64 (placeB l piece new file at'), .int .i64 (placeErr l piece new file at')]) ∧ New w w' := by
  by_cases hb : wayErr l piece = 0
  · cases hx : fileIx l file with
    | none =>
      have e : placeErr l piece new file at' = 7 := by simp [placeErr, hb, hx]
      refine (rWhere_out a c l piece file at' new w h h0 h1 hb (.inl hx)).mono fun e' w' ⟨he, hn⟩ => ⟨?_, hn⟩
      rw [he, placeI, placeB, e, if_neg (by decide), if_neg (by decide)]
    | some f =>
      by_cases ha : 0 ≤ at' ∧ at' < f.len
      · obtain ⟨k, rfl, hk, hf⟩ := fileIx_some hx
        subst hf
        have e : placeErr l piece new k at' = if new && l[k].pad then 10 else 0 := by simp [placeErr, hb, hx, ha]
        cases hq : (new && l[k].pad) with
        | true =>
          obtain ⟨rfl, hp⟩ : new = true ∧ l[k].pad = true := by simpa using hq
          refine (rWhere_pad a c l piece at' k w h h0 h1 hb hk ha.1 ha.2 hp).mono fun e' w' ⟨he, hn⟩ => ⟨?_, hn⟩
          rw [he, placeI, placeB, e, hq]
          rfl
        | false =>
          refine (rWhere_in a c l piece at' k new w h h0 h1 hb hk ha.1 ha.2 hq).mono fun e' w' ⟨he, hn⟩ => ⟨?_, hn⟩
          rw [he, placeI, placeB, e, hq]
          rfl
      · have e : placeErr l piece new file at' = 7 := by simp only [placeErr, hb, hx, if_true, if_neg ha]
        refine (rWhere_out a c l piece file at' new w h h0 h1 hb (.inr ⟨f, hx, by omega⟩)).mono fun e' w' ⟨he, hn⟩ => ⟨?_, hn⟩
        rw [he, placeI, placeB, e, if_neg (by decide), if_neg (by decide)]
  · have e : placeErr l piece new file at' = wayErr l piece := by simp [placeErr, hb]
    rw [placeI, placeB, e, if_neg hb, if_neg hb]
    have HC := hid (rcheck_any a c l piece w h h0 h1)
    have h3 : ((wayErr l piece) == 0) = false := by simpa using hb
    have h4 : ((wayErr l piece) != 0) = true := by simpa using hb
    clear h hb e
    go_enter Tryz.func8, Tryz.ntmps8
    go_wp2_with fail
    refine HC.out.mono ?_
    rintro e w1 ⟨rfl, nw⟩
    have N1 := hid nw
    clear nw
    go_wp2
    go_ret3
    exact ⟨rfl, N1.out⟩
end Go.Proofs.YtnccfikimmolgaaGreatDoor
