/-
  Several texts in one, in their build order. The walk of the reference's Fetches (package coveyref30) where all is well; both in one word. Conditions: the list lies as told; the library's table is laid.
-/
import Derived.Test.YtnhgichiedninaaGreatDoorM44
namespace Go.Proofs.YtnhgichiedninaaGreatDoor
set_option linter.unusedSimpArgs false
set_option linter.unusedVariables false
open Go.RowKit

theorem fetOf_app (wb : Int) (url name : ByteArray) (l : List FileV) (S T : List SpanV) : fetOf wb url name l (S ++ T) = fetOf wb url name l S ++ fetOf wb url name l T := by unfold fetOf; rw [List.map_append]
theorem fetOf_len (wb : Int) (url name : ByteArray) (l : List FileV) (S : List SpanV) : (fetOf wb url name l S).length = S.length := by unfold fetOf; rw [List.length_map]
theorem fetOf_one (wb : Int) (url name : ByteArray) (l : List FileV) (p : SpanV) : fetOf wb url name l [p] = [fet1 wb url name l p] := rfl
theorem fold_take {l : List FileV} {O S : List SpanV} {k : Nat} (h : k < S.length) : (S.take (k + 1)).foldl (stepJ l) O = stepJ l ((S.take k).foldl (stepJ l) O) S[k] := by
  rw [List.take_succ_eq_append_getElem h, List.foldl_append]
  rfl
theorem jn_run (l : List FileV) (piece : Int) (new : Bool) (fr : Int) (j : Nat) : jnOf l (runSp l piece new fr (j + 1)) = (spansOf l piece new (fr + j)).foldl (stepJ l) (jnOf l (runSp l piece new fr j)) := by
  rw [run_next]
  unfold jnOf
  rw [List.foldl_append]
/-- What stands in the parts at any time of the loop. -/
theorem fold_facts {l : List FileV} {piece : Int} {new : Bool} {F n : Nat} (hv : wayErr l piece = 0) (f1 : (F : Int) + n ≤ piecesOf l piece new) {j : Nat} (hj : j < n) {k : Nat} (hk : k < (spansOf l piece new ((F : Int) + j)).length) :
    InK l (spansOf l piece new ((F : Int) + j))[k] ∧ (((spansOf l piece new ((F : Int) + j)).take k).foldl (stepJ l) (jnOf l (runSp l piece new F j))).length ≤ 2800000 ∧ (spansOf l piece new ((F : Int) + j))[k].frm + (spansOf l piece new ((F : Int) + j))[k].cnt ≤ 65536 ∧
      ∀ p ∈ ((spansOf l piece new ((F : Int) + j)).take k).foldl (stepJ l) (jnOf l (runSp l piece new F j)), 0 ≤ p.frm ∧ 1 ≤ p.cnt ∧ p.frm + p.cnt ≤ 65536 := by
  obtain ⟨hvv, hpp⟩ := way_ok hv
  obtain ⟨v1, v2, v3, v4⟩ := valid_facts hvv
  obtain ⟨p1, p2⟩ := piece_range hpp
  have v5 := each_len v3
  obtain ⟨p3, p4⟩ := pieces_le (new := new) hv
  have hin := runs_within new (show 0 < piece by omega) v3 (fr := F) (by omega) (j + 1)
  rw [run_next] at hin
  have hfew := run_few l piece new F (j + 1)
  rw [run_next, List.length_append] at hfew
  have hm : (j + 1) * l.length ≤ 70000 * 40 := Nat.mul_le_mul (by omega) (by omega)
  have e : ((spansOf l piece new ((F : Int) + j)).take k).foldl (stepJ l) (jnOf l (runSp l piece new F j)) = jnOf l (runSp l piece new F j ++ (spansOf l piece new ((F : Int) + j)).take k) := by
    unfold jnOf
    rw [List.foldl_append]
  have hjp := jn_parts (l := l) (S := runSp l piece new F j ++ (spansOf l piece new ((F : Int) + j)).take k) (fun x hx => hin x (by
    rcases List.mem_append.1 hx with hx | hx
    · exact List.mem_append.2 (.inl hx)
    · exact List.mem_append.2 (.inr (List.mem_of_mem_take hx))))
  have hbd : ∀ x, InK l x → 0 ≤ x.frm ∧ 1 ≤ x.cnt ∧ x.frm + x.cnt ≤ 65536 := by
    rintro x ⟨k, f, -, q1, q2, q3, q4⟩
    have := v5 f (List.mem_of_getElem? q1)
    exact ⟨q2, q3, by omega⟩
  have hins := hin _ (List.mem_append.2 (.inr (List.getElem_mem hk)))
  rw [e]
  refine ⟨hins, ?_, (hbd _ hins).2.2, fun p hp => hbd p (hjp.1 p hp).1⟩
  have h1 := hjp.2.2
  rw [List.length_append, List.length_take] at h1
  omega
theorem OwnFt.form {w : World} {base : Nat} {v : Value} {L : List FetV} (h : OwnFt w base v L) : ∃ a c, v = .slice a L.length c := by
  rcases h.2 with ⟨h1, h2⟩ | ⟨g, cap, cur, rfl, -⟩
  · exact ⟨none, 0, by rw [h1, h2]⟩
  · exact ⟨_, _, rfl⟩
set_option maxRecDepth 100000 in
set_option maxHeartbeats 8000000 in
theorem rFetches_ok (url name : ByteArray) (a : Option Addr) (c : Nat) (l : List FileV) (piece : Int) (new : Bool) (F n : Nat) (w : World) (h : FilesAt w a c l) (ht : TzAt w) (ha : askedB url name l = true) (h0 : -9223372036854775808 ≤ piece ∧ piece ≤ 9223372036854775807) (hw : wayErr l piece = 0) (hn1 : 1 ≤ n) (f1 : (F : Int) + n ≤ piecesOf l piece new) (X : List FetV) (hX : X = fetOf 2 url name l (jnOf l (runSp l piece new F n))) :
    Calls Tryz.prog 24 #[.int .i64 2, .string url, .string name, .slice a l.length c, .int .i64 piece, .bool new, .agg #[.int .i64 F, .int .i64 n]] w fun e w' => ∃ v, e = .returned (.tuple #[v, .int .i64 0]) ∧ OwnFt w' w.heap.size v X ∧ New w w' := by
  have HX := hid hX
  obtain ⟨f01, f2, f3, f4, f5⟩ := asked_facts ha
  have hval := fun W => wrValid_any url W (by omega)
  have hrv := fun W (n : New w W) => rvalid_any a c l W (h.new n)
  have H3 := hid (fun W (n : New w W) => rPieces_any a c l piece new W (h.new n) h0.1 h0.2)
  have hempty := size_empty (s := name)
  rw [f01] at hval
  rw [f5] at hrv
  rw [decide_eq_false f3] at hempty
  have hI : decide ((100 : Int) < (name.size : Int)) = false := decide_eq_false (by omega)
  have H1 := hid hval; have H2 := hid hrv
  have hpr : piecesRes l piece new = piecesOf l piece new := by simp [piecesRes, hw]
  obtain ⟨p0, p1⟩ := pieces_le (new := new) hw
  rw [hw, hpr] at H3
  have HSP := hid (fun (j : Nat) W (hj : j < n) (q : New w W) => show Calls Tryz.prog 27 #[.slice a l.length c, .int .i64 piece, .bool new, .int .i64 ((F : Int) + (j : Int))] W fun e w' => ∃ v, e = .returned (.tuple #[v, .int .i64 0]) ∧ OwnS w' W.heap.size v (spansOf l piece new ((F : Int) + (j : Int))) ∧ New W w' by
    have := rSpansOwn_any a c l piece (F + j) new W (h.new q) h0.1 h0.2 hw (by omega)
    rw [Int.natCast_add] at this
    exact this)
  have HFA := hid (fun (j : Nat) (hj : j < n) (S : List SpanV) (hS : S = spansOf l piece new ((F : Int) + (j : Int))) (k : Nat) (hk : k < S.length) => show InK l S[k] ∧ ((S.take k).foldl (stepJ l) (jnOf l (runSp l piece new F j))).length ≤ 2800000 ∧ S[k].frm + S[k].cnt ≤ 65536 ∧ ∀ p ∈ (S.take k).foldl (stepJ l) (jnOf l (runSp l piece new F j)), 0 ≤ p.frm ∧ 1 ≤ p.cnt ∧ p.frm + p.cnt ≤ 65536 by
    subst hS
    exact fold_facts (new := new) hw f1 hj (k := k) hk)
  have HPA := hid (fun (k : Nat) W (hk : k < l.length) (hp : l[k].pad = false) (q : New w W) => rwPath_ok url name a c l k (urlOf url name l k) 0 W (by omega) (by omega) (h.new q) (ht.new q) ha hk hp rfl rfl)
  have HF := hid h
  obtain ⟨P, hP⟩ : ∃ P, P = piecesOf l piece new := ⟨_, rfl⟩
  rw [← hP] at H3 f1 p0 p1
  have hwr : IntKind.i64.wrap (P - F) = P - F := by rw [IntKind.wrap_i64]; omega
  have hwr2 : IntKind.i64.wrap ((F : Int) + n) = F + n := by rw [IntKind.wrap_i64]; omega
  obtain ⟨i0, hi, hz0, hz1, hz2⟩ := info_parts info_fetch
  clear h ht ha hval hrv f01 f3 f5 h0 hw hpr hP hX
  obtain ⟨fr, hfr⟩ : ∃ fr : Int, fr = F := ⟨_, rfl⟩
  obtain ⟨cn, hcn⟩ : ∃ cn : Int, cn = n := ⟨_, rfl⟩
  rw [← hfr] at hwr hwr2 f1 HSP HFA HX ⊢
  rw [← hcn] at hwr2 f1 ⊢
  have q0 : ¬ fr < 0 := by omega
  have q1 : ¬ cn < 1 := by omega
  have q2 : ¬ P < fr := by omega
  have q3 : ¬ P - fr < cn := by omega
  have HFR := hid hfr; have HCN := hid hcn
  have fb0 : 0 ≤ fr := by omega
  have fb1 : fr + cn ≤ 70000 := by omega
  clear hfr hcn f1 p0 p1
  go_enter Tryz.func24, Tryz.ntmps24
  go_wp2_with fail
  refine (H1.out _).mono ?_
  rintro e w1 ⟨rfl, rfl⟩
  go_wp2_with fail
  refine (H2.out _ ((Mod.refl _ _).alloc _)).mono ?_
  rintro e w2 ⟨rfl, n2⟩
  have N2 : Hid (New w w2) := hid (((Mod.refl _ w).alloc (.cells #[.int .i64 fr, .int .i64 cn] 34) : New w _).trans n2)
  have B2 : Hid (Blk w2 w.heap.size #[.int .i64 fr, .int .i64 cn] 34) := hid (New.blk n2 (Blk.new _ _ _))
  clear n2
  go_wp2_with fail
  refine (H3.out _ N2.out).mono ?_
  rintro e w3 ⟨rfl, n3⟩
  have N3 := hid (N2.out.trans n3)
  have B3 := hid (New.blk n3 B2.out)
  clear n3
  have d0 := B3.out.cellv 0 rfl; have d1 := B3.out.cellv 1 rfl; have dl := B3.out.lt
  have N0 : Hid (New w3 w3) := hid (Mod.refl _ _)
  go_wp2
  go_loopw [18, 19] (fun v i wr => ∃ (j : Nat) (o : Value), o = v ∧ i = .int .i64 (fr + (j : Int)) ∧ j ≤ n ∧ OwnFt wr w3.heap.size o (fetOf 2 url name l (jnOf l (runSp l piece new fr j))) ∧ New w3 wr) (fun _ i _ => (fr + cn - intOf i).toNat)
  case atStart => exact ⟨0, _, rfl, by simp, by omega, World.ownsRow_nil _ _ _ _, N0.out⟩
  case round =>
    clear d0 d1 dl
    obtain ⟨j, o, rfl, rfl, hj, ho, hn⟩ := hrel
    have HO := hid ho; have HN := hid hn
    have d0 := hn.cellv (B3.out.cellv 0 rfl); have d1 := hn.cellv (B3.out.cellv 1 rfl)
    have dl : w.heap.size < wr.heap.size := by have := B3.out.lt; have := hn.size; omega
    clear ho hn
    by_cases hlt : j < n
    · have hltI : fr + (j : Int) < fr + cn := by have := HCN.out; omega
      have hwj : IntKind.i64.wrap (fr + (j : Int)) = fr + j := by rw [IntKind.wrap_i64]; have := HCN.out; omega
      have hwj1 : IntKind.i64.wrap (fr + (j : Int) + 1) = fr + j + 1 := by rw [IntKind.wrap_i64]; have := HCN.out; omega
      have HJN := hid (jn_run l piece new fr j)
      have HSJ := hid (fun W (q : New w W) => HSP.out j W hlt q)
      obtain ⟨S, hS⟩ : ∃ S, S = spansOf l piece new (fr + (j : Int)) := ⟨_, rfl⟩
      rw [← hS] at HJN HSJ
      have HFB := hid (fun (k : Nat) (hk : k < S.length) => HFA.out j hlt S hS k hk)
      obtain ⟨O0, hO0⟩ : ∃ O0, O0 = jnOf l (runSp l piece new fr j) := ⟨_, rfl⟩
      rw [← hO0] at HO HJN HFB
      clear hS hO0
      go_wp2_with fail
      refine (HSJ.out _ (N3.out.trans HN.out)).mono ?_
      rintro e w4 ⟨u, rfl, hu, n4⟩
      obtain ⟨sa, sc', rfl, -, -⟩ := hu.spansB
      have HU4 := hid (hu.base (base' := w3.heap.size) (by have := HN.out.size; omega))
      have HN4 := hid (HN.out.trans n4)
      have HO4 := hid (HO.out.new n4)
      clear hu n4 d0 d1 dl HO HN
      go_wp2
      go_loopw [18, 107] (fun v i wi => ∃ (k : Nat) (o : Value), o = v ∧ i = .int .i64 k ∧ k ≤ S.length ∧ OwnFt wi w3.heap.size o (fetOf 2 url name l ((S.take k).foldl (stepJ l) O0)) ∧ OwnS wi w3.heap.size (.slice sa S.length sc') S ∧ New w3 wi) (fun _ i _ => S.length - (intOf i).toNat)
      case atStart => exact ⟨0, _, rfl, rfl, by omega, HO4.out, HU4.out, HN4.out⟩
      case round =>
        clear HO4 HU4 HN4
        obtain ⟨k, o, rfl, rfl, hk, ho, hu, hn⟩ := hrel
        have HO := hid ho; have HU := hid hu; have HN := hid hn
        clear ho hu hn
        by_cases hlk : k < S.length
        · obtain ⟨⟨kf, f, e1, e2, e3, e4, -⟩, hlen, hsb, hpb⟩ := HFB.out k hlk
          have HPB := hid hpb
          have HNX := hid (fold_take (l := l) (O := O0) hlk)
          obtain ⟨a5, c5, e5, hsa, -⟩ := HU.out.spansB
          cases e5
          have hs1 := hsa.room; have hs2 := hsa.cap
          unfold maxLen at hs2
          obtain ⟨b1, o1, rfl, hb1, hc1⟩ := hsa.get (by omega)
          obtain ⟨r0, r1, r2⟩ := hc1 k hlk
          obtain ⟨x, hx⟩ : ∃ x, x = S[k] := ⟨_, rfl⟩
          rw [← hx] at r0 r1 r2 e1 e3 e4 hsb HNX
          obtain ⟨O, hO⟩ : ∃ O, O = (S.take k).foldl (stepJ l) O0 := ⟨_, rfl⟩
          rw [← hO] at HO HNX hlen HPB
          clear hO hx hpb hc1 hsa
          obtain ⟨xf, sr, sc⟩ := x
          simp only at r0 r1 r2 e1 e3 e4 hsb
          subst e1
          have hkl : kf < l.length := (List.getElem?_eq_some_iff.1 e2).1
          have hlf : l[kf] = f := (List.getElem?_eq_some_iff.1 e2).2
          have HFT : Hid (fet1 2 url name l ⟨kf, sr, sc⟩ = ⟨2, kf, sr, sc, ⟨(urlOf url name l kf).toArray⟩⟩) := hid rfl
          have hfa := HF.out.new (N3.out.trans HN.out)
          have hr1 := hfa.room; have hr2 := hfa.cap
          unfold maxLen at hr2
          obtain ⟨bb, oo, rfl, hbb, hcc⟩ := hfa.get (by omega)
          obtain ⟨pa, pc, g0, g1, g2, -, -⟩ := hcc kf hkl
          rw [hlf] at g0 g1 g2
          have hpd : padS l ⟨kf, sr, sc⟩ = f.pad := by
            unfold padS
            simp only
            rw [Int.toNat_natCast, e2]
          clear hfa hcc
          cases hpb : f.pad with
          | true =>
            rw [hpb] at hpd g2
            have HST := hid (show stepJ l O ⟨kf, sr, sc⟩ = O by unfold stepJ; rw [hpd, if_pos rfl])
            clear hpd hpb
            go_wp2
            exact ⟨⟨k + 1, o, rfl, by simp, by omega, by rw [HNX.out, HST.out]; exact HO.out.new ((Mod.refl _ _).alloc _), owns_mod HU.out ((Mod.refl (fun _ => False) _).alloc _) (fun _ _ q => q), HN.out.alloc _⟩, by simp [intOf]; omega⟩
          | false =>
            have hpad : l[kf].pad = false := by rw [hlf]; exact hpb
            rw [hpb] at hpd g2
            have HST := hid (show stepJ l O ⟨kf, sr, sc⟩ = addJ O ⟨kf, sr, sc⟩ by unfold stepJ; rw [hpd, if_neg (by simp)])
            obtain ⟨U, hU⟩ : ∃ U : ByteArray, U = ⟨(urlOf url name l kf).toArray⟩ := ⟨_, rfl⟩
            have HPQ := hid (fun W (q : New w W) => HPA.out kf W hkl hpad q)
            rw [← hU] at HFT HPQ
            clear hpd hpb hpad hU
            have NB : Hid (New wr (wr.alloc (.cells #[.int .i64 kf, .int .i64 sr, .int .i64 sc] 113))) := hid ((Mod.refl _ _).alloc _)
            have BX := hid (Blk.new wr #[.int .i64 kf, .int .i64 sr, .int .i64 sc] 113)
            have HN3 := hid (HN.out.trans NB.out.drew)
            have HX3 := hid BX.out.drew
            have HO3 := hid (HO.out.new NB.out.drew)
            have HU3 := hid (owns_mod HU.out NB.out.drew (fun _ _ q => q))
            have hwb := HN.out.size
            rcases List.eq_nil_or_concat O with hO | ⟨O', p, hO⟩
            · subst hO
              have HFL : Hid ((fetOf 2 url name l []).length = 0) := hid rfl
              obtain ⟨av, cv, hov⟩ := HO.out.form
              rw [HFL.out] at hov
              subst hov
              have HAD := hid (show addJ [] ⟨kf, sr, sc⟩ = [] ++ [⟨kf, sr, sc⟩] from rfl)
              go_wp2
              refine wp_region_held_drew (S := (fun _ => True)) (by kernel_rfl) trivial (fun hHeld => ?_)
              refine wpAnyH_take (i := 0) (v := ?_) (by simp only [List.getElem?_toArray, List.getElem?_cons_succ, List.getElem?_cons_zero]; rfl) (by kernel_rfl) (by kernel_rfl) (by kernel_rfl) (by intro _ _ _ h; exact h) (Or.inl ⟨by rfl, ?_⟩) (by assumption) ?_
              rotate_left
              · intro w hSw
                (try dsimp only at hSw)
                first | (go_simp; done) | (go_simp; with_reducible rfl) | with_reducible rfl
              simp only [Act.put, List.setIfInBounds_toArray, List.set_cons_zero, List.set_cons_succ]
              refine wpAnyH_take (i := 1) (v := ?_) (by simp only [List.getElem?_toArray, List.getElem?_cons_succ, List.getElem?_cons_zero]; rfl) (by kernel_rfl) (by kernel_rfl) (by kernel_rfl) (by intro _ _ _ h; exact h) (Or.inl ⟨by rfl, ?_⟩) (by assumption) ?_
              rotate_left
              · intro w hSw
                (try dsimp only at hSw)
                first | (go_simp; done) | (go_simp; with_reducible rfl) | with_reducible rfl
              simp only [Act.put, List.setIfInBounds_toArray, List.set_cons_zero, List.set_cons_succ]
              refine wpAnyH_take (i := 2) (v := ?_) (by simp only [List.getElem?_toArray, List.getElem?_cons_succ, List.getElem?_cons_zero]; rfl) (by kernel_rfl) (by kernel_rfl) (by kernel_rfl) (by intro _ _ _ h; exact h) (Or.inl ⟨by rfl, ?_⟩) (by assumption) ?_
              rotate_left
              · intro w hSw
                (try dsimp only at hSw)
                first | (go_simp; done) | (go_simp; with_reducible rfl) | with_reducible rfl
              simp only [Act.put, List.setIfInBounds_toArray, List.set_cons_zero, List.set_cons_succ]
              refine wpAnyH_take (i := 3) (v := undef) (by simp only [List.getElem?_toArray, List.getElem?_cons_succ, List.getElem?_cons_zero]; rfl) (by kernel_rfl) (by kernel_rfl) (by kernel_rfl) (by intro _ _ _ h; exact h) (Or.inr ⟨by kernel_rfl, rfl⟩) (by assumption) ?_
              simp only [Act.put, List.setIfInBounds_toArray, List.set_cons_zero, List.set_cons_succ]
              refine wpAnyH_take (i := 4) (v := undef) (by simp only [List.getElem?_toArray, List.getElem?_cons_succ, List.getElem?_cons_zero]; rfl) (by kernel_rfl) (by kernel_rfl) (by kernel_rfl) (by intro _ _ _ h; exact h) (Or.inr ⟨by kernel_rfl, rfl⟩) (by assumption) ?_
              simp only [Act.put, List.setIfInBounds_toArray, List.set_cons_zero, List.set_cons_succ]
              refine wpAnyH_take (i := 5) (v := undef) (by simp only [List.getElem?_toArray, List.getElem?_cons_succ, List.getElem?_cons_zero]; rfl) (by kernel_rfl) (by kernel_rfl) (by kernel_rfl) (by intro _ _ _ h; exact h) (Or.inr ⟨by kernel_rfl, rfl⟩) (by assumption) ?_
              simp only [Act.put, List.setIfInBounds_toArray, List.set_cons_zero, List.set_cons_succ]
              refine wpAnyH_take (i := 6) (v := undef) (by simp only [List.getElem?_toArray, List.getElem?_cons_succ, List.getElem?_cons_zero]; rfl) (by kernel_rfl) (by kernel_rfl) (by kernel_rfl) (by intro _ _ _ h; exact h) (Or.inr ⟨by kernel_rfl, rfl⟩) (by assumption) ?_
              simp only [Act.put, List.setIfInBounds_toArray, List.set_cons_zero, List.set_cons_succ]
              refine wpAnyH_take (i := 7) (v := undef) (by simp only [List.getElem?_toArray, List.getElem?_cons_succ, List.getElem?_cons_zero]; rfl) (by kernel_rfl) (by kernel_rfl) (by kernel_rfl) (by intro _ _ _ h; exact h) (Or.inr ⟨by kernel_rfl, rfl⟩) (by assumption) ?_
              simp only [Act.put, List.setIfInBounds_toArray, List.set_cons_zero, List.set_cons_succ]
              refine wpAnyH_take (i := 8) (v := undef) (by simp only [List.getElem?_toArray, List.getElem?_cons_succ, List.getElem?_cons_zero]; rfl) (by kernel_rfl) (by kernel_rfl) (by kernel_rfl) (by intro _ _ _ h; exact h) (Or.inr ⟨by kernel_rfl, rfl⟩) (by assumption) ?_
              simp only [Act.put, List.setIfInBounds_toArray, List.set_cons_zero, List.set_cons_succ]
              refine wpAnyH_take (i := 9) (v := undef) (by simp only [List.getElem?_toArray, List.getElem?_cons_succ, List.getElem?_cons_zero]; rfl) (by kernel_rfl) (by kernel_rfl) (by kernel_rfl) (by intro _ _ _ h; exact h) (Or.inr ⟨by kernel_rfl, rfl⟩) (by assumption) ?_
              simp only [Act.put, List.setIfInBounds_toArray, List.set_cons_zero, List.set_cons_succ]
              refine wpAnyH_take (i := 10) (v := undef) (by simp only [List.getElem?_toArray, List.getElem?_cons_succ, List.getElem?_cons_zero]; rfl) (by kernel_rfl) (by kernel_rfl) (by kernel_rfl) (by intro _ _ _ h; exact h) (Or.inr ⟨by kernel_rfl, rfl⟩) (by assumption) ?_
              simp only [Act.put, List.setIfInBounds_toArray, List.set_cons_zero, List.set_cons_succ]
              refine wpAnyH_take (i := 11) (v := ?_) (by simp only [List.getElem?_toArray, List.getElem?_cons_succ, List.getElem?_cons_zero]; rfl) (by kernel_rfl) (by kernel_rfl) (by kernel_rfl) (by intro _ _ _ h; exact h) (Or.inl ⟨by rfl, ?_⟩) (by assumption) ?_
              rotate_left
              · intro w hSw
                (try dsimp only at hSw)
                first | (go_simp; done) | (go_simp; with_reducible rfl) | with_reducible rfl
              simp only [Act.put, List.setIfInBounds_toArray, List.set_cons_zero, List.set_cons_succ]
              refine wpAnyH_take (i := 12) (v := ?_) (by simp only [List.getElem?_toArray, List.getElem?_cons_succ, List.getElem?_cons_zero]; rfl) (by kernel_rfl) (by kernel_rfl) (by kernel_rfl) (by intro _ _ _ h; exact h) (Or.inl ⟨by rfl, ?_⟩) (by assumption) ?_
              rotate_left
              · intro w hSw
                (try dsimp only at hSw)
                first | (go_simp; done) | (go_simp; with_reducible rfl) | with_reducible rfl
              simp only [Act.put, List.setIfInBounds_toArray, List.set_cons_zero, List.set_cons_succ]
              refine wpAnyH_take (i := 13) (v := undef) (by simp only [List.getElem?_toArray, List.getElem?_cons_succ, List.getElem?_cons_zero]; rfl) (by kernel_rfl) (by kernel_rfl) (by kernel_rfl) (by intro _ _ _ h; exact h) (Or.inr ⟨by kernel_rfl, rfl⟩) (by assumption) ?_
              simp only [Act.put, List.setIfInBounds_toArray, List.set_cons_zero, List.set_cons_succ]
              refine wpAnyH_take (i := 14) (v := undef) (by simp only [List.getElem?_toArray, List.getElem?_cons_succ, List.getElem?_cons_zero]; rfl) (by kernel_rfl) (by kernel_rfl) (by kernel_rfl) (by intro _ _ _ h; exact h) (Or.inr ⟨by kernel_rfl, rfl⟩) (by assumption) ?_
              simp only [Act.put, List.setIfInBounds_toArray, List.set_cons_zero, List.set_cons_succ]
              refine wpAnyH_take (i := 15) (v := undef) (by simp only [List.getElem?_toArray, List.getElem?_cons_succ, List.getElem?_cons_zero]; rfl) (by kernel_rfl) (by kernel_rfl) (by kernel_rfl) (by intro _ _ _ h; exact h) (Or.inr ⟨by kernel_rfl, rfl⟩) (by assumption) ?_
              simp only [Act.put, List.setIfInBounds_toArray, List.set_cons_zero, List.set_cons_succ]
              refine wpAnyH_take (i := 16) (v := undef) (by simp only [List.getElem?_toArray, List.getElem?_cons_succ, List.getElem?_cons_zero]; rfl) (by kernel_rfl) (by kernel_rfl) (by kernel_rfl) (by intro _ _ _ h; exact h) (Or.inr ⟨by kernel_rfl, rfl⟩) (by assumption) ?_
              simp only [Act.put, List.setIfInBounds_toArray, List.set_cons_zero, List.set_cons_succ]
              refine wpAnyH_take (i := 17) (v := undef) (by simp only [List.getElem?_toArray, List.getElem?_cons_succ, List.getElem?_cons_zero]; rfl) (by kernel_rfl) (by kernel_rfl) (by kernel_rfl) (by intro _ _ _ h; exact h) (Or.inr ⟨by kernel_rfl, rfl⟩) (by assumption) ?_
              simp only [Act.put, List.setIfInBounds_toArray, List.set_cons_zero, List.set_cons_succ]
              refine wpAnyH_take (i := 18) (v := undef) (by simp only [List.getElem?_toArray, List.getElem?_cons_succ, List.getElem?_cons_zero]; rfl) (by kernel_rfl) (by kernel_rfl) (by kernel_rfl) (by intro _ _ _ h; exact h) (Or.inr ⟨by kernel_rfl, rfl⟩) (by assumption) ?_
              simp only [Act.put, List.setIfInBounds_toArray, List.set_cons_zero, List.set_cons_succ]
              refine wpAnyH_take (i := 19) (v := undef) (by simp only [List.getElem?_toArray, List.getElem?_cons_succ, List.getElem?_cons_zero]; rfl) (by kernel_rfl) (by kernel_rfl) (by kernel_rfl) (by intro _ _ _ h; exact h) (Or.inr ⟨by kernel_rfl, rfl⟩) (by assumption) ?_
              simp only [Act.put, List.setIfInBounds_toArray, List.set_cons_zero, List.set_cons_succ]
              refine wpAnyH_take (i := 20) (v := undef) (by simp only [List.getElem?_toArray, List.getElem?_cons_succ, List.getElem?_cons_zero]; rfl) (by kernel_rfl) (by kernel_rfl) (by kernel_rfl) (by intro _ _ _ h; exact h) (Or.inr ⟨by kernel_rfl, rfl⟩) (by assumption) ?_
              simp only [Act.put, List.setIfInBounds_toArray, List.set_cons_zero, List.set_cons_succ]
              refine wpAnyH_take (i := 21) (v := undef) (by simp only [List.getElem?_toArray, List.getElem?_cons_succ, List.getElem?_cons_zero]; rfl) (by kernel_rfl) (by kernel_rfl) (by kernel_rfl) (by intro _ _ _ h; exact h) (Or.inr ⟨by kernel_rfl, rfl⟩) (by assumption) ?_
              simp only [Act.put, List.setIfInBounds_toArray, List.set_cons_zero, List.set_cons_succ]
              refine wpAnyH_take (i := 22) (v := undef) (by simp only [List.getElem?_toArray, List.getElem?_cons_succ, List.getElem?_cons_zero]; rfl) (by kernel_rfl) (by kernel_rfl) (by kernel_rfl) (by intro _ _ _ h; exact h) (Or.inr ⟨by kernel_rfl, rfl⟩) (by assumption) ?_
              simp only [Act.put, List.setIfInBounds_toArray, List.set_cons_zero, List.set_cons_succ]
              refine wpAnyH_take (i := 23) (v := undef) (by simp only [List.getElem?_toArray, List.getElem?_cons_succ, List.getElem?_cons_zero]; rfl) (by kernel_rfl) (by kernel_rfl) (by kernel_rfl) (by intro _ _ _ h; exact h) (Or.inr ⟨by kernel_rfl, rfl⟩) (by assumption) ?_
              simp only [Act.put, List.setIfInBounds_toArray, List.set_cons_zero, List.set_cons_succ]
              refine wpAnyH_take (i := 24) (v := undef) (by simp only [List.getElem?_toArray, List.getElem?_cons_succ, List.getElem?_cons_zero]; rfl) (by kernel_rfl) (by kernel_rfl) (by kernel_rfl) (by intro _ _ _ h; exact h) (Or.inr ⟨by kernel_rfl, rfl⟩) (by assumption) ?_
              simp only [Act.put, List.setIfInBounds_toArray, List.set_cons_zero, List.set_cons_succ]
              refine wpAnyH_take (i := 25) (v := undef) (by simp only [List.getElem?_toArray, List.getElem?_cons_succ, List.getElem?_cons_zero]; rfl) (by kernel_rfl) (by kernel_rfl) (by kernel_rfl) (by intro _ _ _ h; exact h) (Or.inr ⟨by kernel_rfl, rfl⟩) (by assumption) ?_
              simp only [Act.put, List.setIfInBounds_toArray, List.set_cons_zero, List.set_cons_succ]
              refine wpAnyH_take (i := 26) (v := undef) (by simp only [List.getElem?_toArray, List.getElem?_cons_succ, List.getElem?_cons_zero]; rfl) (by kernel_rfl) (by kernel_rfl) (by kernel_rfl) (by intro _ _ _ h; exact h) (Or.inr ⟨by kernel_rfl, rfl⟩) (by assumption) ?_
              simp only [Act.put, List.setIfInBounds_toArray, List.set_cons_zero, List.set_cons_succ]
              refine wpAnyH_take (i := 27) (v := ?_) (by simp only [List.getElem?_toArray, List.getElem?_cons_succ, List.getElem?_cons_zero]; rfl) (by kernel_rfl) (by kernel_rfl) (by kernel_rfl) (by intro _ _ _ h; exact h) (Or.inl ⟨by rfl, ?_⟩) (by assumption) ?_
              rotate_left
              · intro w hSw
                (try dsimp only at hSw)
                first | (go_simp; done) | (go_simp; with_reducible rfl) | with_reducible rfl
              simp only [Act.put, List.setIfInBounds_toArray, List.set_cons_zero, List.set_cons_succ]
              refine wpAnyH_done (by kernel_rfl) ?_ _
              go_wp2_with fail
              refine (HPQ.out _ (N3.out.trans HN3.out)).mono ?_
              rintro e w4 ⟨rfl, n4⟩
              have N4 := hid (HN3.out.trans n4)
              have X4 := hid (New.blk n4 HX3.out)
              have O4 := hid (HO3.out.new n4)
              have U4 := hid (owns_mod HU3.out n4 (fun _ _ q => q))
              clear n4
              have x0 := X4.out.cellv 0 rfl; have x1 := X4.out.cellv 1 rfl; have x2 := X4.out.cellv 2 rfl; have xl := X4.out.lt
              go_wp2_with (at_builtin; refine wpList_append_own_at _ rfl _ _ 55 rfl w3.heap.size 62 i0 _ 5 48 Tryz.underlying55 hi hz0 hz1 hz2 rfl (by decide) (.slice av (0) cv) (0) (fetRow (fetOf 2 url name l [])) rfl ?owA ⟨w4.heap.size, 0, none⟩ 1 1 (fetCells ⟨2, kf, sr, sc, U⟩) rfl rfl ?hnA ?h1A ?h63A ?hbyA ?hbaA ?_)
              case owA =>
                have q := O4.out.new ((Mod.refl (fun _ => False) _).alloc (.cells #[.int .i64 2, .int .i64 kf, .int .i64 sr, .int .i64 sc, .string U] 62))
                unfold OwnFt at q
                rw [HFL.out] at q
                exact q
              case hnA => intro j u hj; exact World.news_of_block (heap_alloc_new _ _) j u hj
              case h1A => intro u hu; simp [fetCells] at hu; rcases hu with rfl | rfl | rfl | rfl | rfl <;> rfl
              case h63A => unfold maxLen; omega
              case hbyA => omega
              case hbaA => simp; have := N4.out.size; omega
              intro v' w' hr2 hg2 hne2 hat
              have HU9 := hid (World.ownsRow.kept (owns_mod U4.out ((Mod.refl (fun _ => False) _).alloc _) (fun _ _ q => q)) hg2 (owns_sep O4.out U4.out (by decide)))
              have HN9 : Hid (New w3 w') := hid (New.grown (N4.out.alloc _) hg2 (fun j hj => (World.ownsRow.lt O4.out j hj).1))
              have HO9 : Hid (OwnFt w' w3.heap.size v' (fetOf 2 url name l (stepJ l ([]) ⟨kf, sr, sc⟩))) := hid (by
                rw [HST.out, HAD.out, fetOf_app, fetOf_one, HFT.out]
                exact OwnFt.next HFL.out hr2)
              clear hr2 hg2 hne2 hat
              go_wp2
              exact ⟨⟨k + 1, v', rfl, by simp, by omega, by rw [HNX.out]; exact HO9.out, HU9.out, HN9.out⟩, by simp [intOf]; omega⟩
            · rw [List.concat_eq_append] at hO
              subst hO
              obtain ⟨m, hm⟩ : ∃ m, m = O'.length := ⟨_, rfl⟩
              have HFL : Hid ((fetOf 2 url name l (O' ++ [p])).length = m + 1) := hid (by rw [fetOf_len, hm]; simp)
              have hol := HO.out
              rw [fetOf_app, fetOf_one] at hol
              obtain ⟨g, cap, hov, hgb, hgl, hcp1, hcp2, y0, y1, y2, y3⟩ := hol.lastCells
              rw [fetOf_len, ← hm] at hov hcp1 y0 y1 y2
              subst hov
              simp only [fet1] at y0 y1 y2
              have hlast : (O' ++ [p]).getLast? = some p := by simp
              unfold maxLen at hcp2
              have hml : m ≤ 2800000 := by rw [List.length_append, ← hm] at hlen; simp at hlen; omega
              clear hol
              have hwr9 : IntKind.i64.wrap (m : Int) = (m : Int) := by rw [IntKind.wrap_i64]; omega
              have hpi : ((m + 1 : Nat) : Int) - 1 = (m : Int) := by omega
              have hix : (m : Int) < (m : Int) + 1 := by omega
              have hix2 : m < m + 1 := by omega
              have hix0 : ¬ (m : Int) < 0 := by omega
              have hix1 : (0 : Int) ≤ (m : Int) := by omega
              obtain ⟨hp0, hp1, hp2⟩ := HPB.out p (by simp)
              by_cases hpf : p.file = (kf : Int)
              · have hpfI : (p.file == (kf : Int)) = true := by rw [beq_iff_eq]; exact hpf
                have hw2 : IntKind.i64.wrap (p.frm + p.cnt) = p.frm + p.cnt := by rw [IntKind.wrap_i64]; omega
                have hw3 : IntKind.i64.wrap (p.cnt + sc) = p.cnt + sc := by rw [IntKind.wrap_i64]; omega
                by_cases hpt : p.frm + p.cnt = sr
                · have hptI : (p.frm + p.cnt == sr) = true := by rw [beq_iff_eq]; exact hpt
                  have HAD := hid (show addJ (O' ++ [p]) ⟨kf, sr, sc⟩ = O' ++ [⟨p.file, p.frm, p.cnt + sc⟩] by
                    unfold addJ
                    rw [hlast]
                    simp only
                    rw [if_pos ⟨hpf, hpt⟩, List.dropLast_concat])
                  have hol3 := HO.out
                  rw [fetOf_app, fetOf_one] at hol3
                  have hla : OwnFt (wr.setCell ⟨g, m * 5 + 3, none⟩ (.int .i64 (p.cnt + sc))) w3.heap.size (.slice (some ⟨g, 0, none⟩) (m + 1) cap) (fetOf 2 url name l (O' ++ [⟨p.file, p.frm, p.cnt + sc⟩])) := by
                    have q := OwnFt.last (g := g) (cap := cap) (by rw [fetOf_len, ← hm]; exact hol3) (p.cnt + sc)
                    rw [fetOf_len, ← hm] at q
                    rw [fetOf_app, fetOf_one]
                    exact q
                  have hq := hol3
                  unfold OwnFt at hq
                  have hku := World.ownsRow.kept HU.out (World.ownsRow.stored (g := g) (n := m + 1) (cap := cap) (by
                    have e : (fetOf 2 url name l O' ++ [fet1 2 url name l p]).length = m + 1 := by rw [List.length_append, fetOf_len, hm]; rfl
                    rw [e] at hq
                    exact hq) (m * 5 + 3) (.int .i64 (p.cnt + sc))).2 (owns_sep hol3 HU.out (by decide))
                  have NB2 : Hid (New (wr.setCell ⟨g, m * 5 + 3, none⟩ (.int .i64 (p.cnt + sc))) ((wr.setCell ⟨g, m * 5 + 3, none⟩ (.int .i64 (p.cnt + sc))).alloc (.cells #[.int .i64 kf, .int .i64 sr, .int .i64 sc] 113))) := hid ((Mod.refl _ _).alloc _)
                  have HLA := hid (hla.new NB2.out.drew.drew)
                  have HKU := hid (owns_mod hku NB2.out.drew.drew (fun _ _ q => q))
                  have HNJ := hid ((Mod.set HN.out ⟨g, m * 5 + 3, none⟩ (.int .i64 (p.cnt + sc)) (.inr hgb)).trans NB2.out.drew.drew)
                  have HXJ : Hid (Blk ((wr.setCell ⟨g, m * 5 + 3, none⟩ (.int .i64 (p.cnt + sc))).alloc (.cells #[.int .i64 kf, .int .i64 sr, .int .i64 sc] 113)) wr.heap.size #[.int .i64 kf, .int .i64 sr, .int .i64 sc] 113) := hid (Blk.newAt (by simp))
                  clear hku
                  clear hpf hpt hm hol3 hla hq
                  go_wp2
                  refine wp_region_held_drew (S := (fun w' => w'.cell? ⟨g, m * 5 + 1, none⟩ = some (.int .i64 p.file) ∧ w'.cell? ⟨g, m * 5 + 2, none⟩ = some (.int .i64 p.frm) ∧ w'.cell? ⟨g, m * 5 + 3, none⟩ = some (.int .i64 p.cnt) ∧ w'.cell? ⟨wr.heap.size, 0, none⟩ = some (.int .i64 kf) ∧ w'.cell? ⟨wr.heap.size, 1, none⟩ = some (.int .i64 sr) ∧ w'.cell? ⟨wr.heap.size, 2, none⟩ = some (.int .i64 sc))) (by kernel_rfl) ⟨NB.out.cellv y0, NB.out.cellv y1, NB.out.cellv y2, BX.out.cellv 0 rfl, BX.out.cellv 1 rfl, BX.out.cellv 2 rfl⟩ (fun hHeld => ?_)
                  refine wpAnyH_take (i := 0) (v := ?_) (by simp only [List.getElem?_toArray, List.getElem?_cons_succ, List.getElem?_cons_zero]; rfl) (by kernel_rfl) (by kernel_rfl) (by kernel_rfl) (by intro _ _ _ h; exact h) (Or.inl ⟨by rfl, ?_⟩) (by assumption) ?_
                  rotate_left
                  · intro w hSw
                    (try dsimp only at hSw)
                    first | (go_simp; done) | (go_simp; with_reducible rfl) | with_reducible rfl
                  simp only [Act.put, List.setIfInBounds_toArray, List.set_cons_zero, List.set_cons_succ]
                  refine wpAnyH_take (i := 1) (v := ?_) (by simp only [List.getElem?_toArray, List.getElem?_cons_succ, List.getElem?_cons_zero]; rfl) (by kernel_rfl) (by kernel_rfl) (by kernel_rfl) (by intro _ _ _ h; exact h) (Or.inl ⟨by rfl, ?_⟩) (by assumption) ?_
                  rotate_left
                  · intro w hSw
                    (try dsimp only at hSw)
                    first | (go_simp; done) | (go_simp; with_reducible rfl) | with_reducible rfl
                  simp only [Act.put, List.setIfInBounds_toArray, List.set_cons_zero, List.set_cons_succ]
                  refine wpAnyH_take (i := 2) (v := ?_) (by simp only [List.getElem?_toArray, List.getElem?_cons_succ, List.getElem?_cons_zero]; rfl) (by kernel_rfl) (by kernel_rfl) (by kernel_rfl) (by intro _ _ _ h; exact h) (Or.inl ⟨by rfl, ?_⟩) (by assumption) ?_
                  rotate_left
                  · intro w hSw
                    (try dsimp only at hSw)
                    first | (go_simp; done) | (go_simp; with_reducible rfl) | with_reducible rfl
                  simp only [Act.put, List.setIfInBounds_toArray, List.set_cons_zero, List.set_cons_succ]
                  refine wpAnyH_take (i := 3) (v := ?_) (by simp only [List.getElem?_toArray, List.getElem?_cons_succ, List.getElem?_cons_zero]; rfl) (by kernel_rfl) (by kernel_rfl) (by kernel_rfl) (by intro _ _ _ h; exact h) (Or.inl ⟨by rfl, ?_⟩) (by assumption) ?_
                  rotate_left
                  · intro w hSw
                    (try dsimp only at hSw)
                    first | (go_simp; done) | (go_simp; with_reducible rfl) | with_reducible rfl
                  simp only [Act.put, List.setIfInBounds_toArray, List.set_cons_zero, List.set_cons_succ]
                  refine wpAnyH_take (i := 4) (v := ?_) (by simp only [List.getElem?_toArray, List.getElem?_cons_succ, List.getElem?_cons_zero]; rfl) (by kernel_rfl) (by kernel_rfl) (by kernel_rfl) (by intro _ _ _ h; exact h) (Or.inl ⟨by rfl, ?_⟩) (by assumption) ?_
                  rotate_left
                  · intro w hSw
                    (try dsimp only at hSw)
                    first | (go_simp; done) | (go_simp; with_reducible rfl) | with_reducible rfl
                  simp only [Act.put, List.setIfInBounds_toArray, List.set_cons_zero, List.set_cons_succ]
                  refine wpAnyH_take (i := 5) (v := ?_) (by simp only [List.getElem?_toArray, List.getElem?_cons_succ, List.getElem?_cons_zero]; rfl) (by kernel_rfl) (by kernel_rfl) (by kernel_rfl) (by intro _ _ _ h; exact h) (Or.inl ⟨by rfl, ?_⟩) (by assumption) ?_
                  rotate_left
                  · intro w hSw
                    (try dsimp only at hSw)
                    first | (go_simp; done) | (go_simp; with_reducible rfl) | with_reducible rfl
                  simp only [Act.put, List.setIfInBounds_toArray, List.set_cons_zero, List.set_cons_succ]
                  refine wpAnyH_take (i := 6) (v := ?_) (by simp only [List.getElem?_toArray, List.getElem?_cons_succ, List.getElem?_cons_zero]; rfl) (by kernel_rfl) (by kernel_rfl) (by kernel_rfl) (by intro _ _ _ h; exact h) (Or.inl ⟨by rfl, ?_⟩) (by assumption) ?_
                  rotate_left
                  · intro w hSw
                    (try dsimp only at hSw)
                    first | (go_simp; done) | (go_simp; with_reducible rfl) | with_reducible rfl
                  simp only [Act.put, List.setIfInBounds_toArray, List.set_cons_zero, List.set_cons_succ]
                  refine wpAnyH_take (i := 7) (v := ?_) (by simp only [List.getElem?_toArray, List.getElem?_cons_succ, List.getElem?_cons_zero]; rfl) (by kernel_rfl) (by kernel_rfl) (by kernel_rfl) (by intro _ _ _ h; exact h) (Or.inl ⟨by rfl, ?_⟩) (by assumption) ?_
                  rotate_left
                  · intro w hSw
                    (try dsimp only at hSw)
                    first | (go_simp; done) | (go_simp; with_reducible rfl) | with_reducible rfl
                  simp only [Act.put, List.setIfInBounds_toArray, List.set_cons_zero, List.set_cons_succ]
                  refine wpAnyH_take (i := 8) (v := ?_) (by simp only [List.getElem?_toArray, List.getElem?_cons_succ, List.getElem?_cons_zero]; rfl) (by kernel_rfl) (by kernel_rfl) (by kernel_rfl) (by intro _ _ _ h; exact h) (Or.inl ⟨by rfl, ?_⟩) (by assumption) ?_
                  rotate_left
                  · intro w hSw
                    (try dsimp only at hSw)
                    first | (go_simp; done) | (go_simp; with_reducible rfl) | with_reducible rfl
                  simp only [Act.put, List.setIfInBounds_toArray, List.set_cons_zero, List.set_cons_succ]
                  refine wpAnyH_take (i := 9) (v := ?_) (by simp only [List.getElem?_toArray, List.getElem?_cons_succ, List.getElem?_cons_zero]; rfl) (by kernel_rfl) (by kernel_rfl) (by kernel_rfl) (by intro _ _ _ h; exact h) (Or.inl ⟨by rfl, ?_⟩) (by assumption) ?_
                  rotate_left
                  · intro w hSw
                    (try dsimp only at hSw)
                    first | (go_simp; done) | (go_simp; with_reducible rfl) | with_reducible rfl
                  simp only [Act.put, List.setIfInBounds_toArray, List.set_cons_zero, List.set_cons_succ]
                  refine wpAnyH_take (i := 10) (v := ?_) (by simp only [List.getElem?_toArray, List.getElem?_cons_succ, List.getElem?_cons_zero]; rfl) (by kernel_rfl) (by kernel_rfl) (by kernel_rfl) (by intro _ _ _ h; exact h) (Or.inl ⟨by rfl, ?_⟩) (by assumption) ?_
                  rotate_left
                  · intro w hSw
                    (try dsimp only at hSw)
                    first | (go_simp; done) | (go_simp; with_reducible rfl) | with_reducible rfl
                  simp only [Act.put, List.setIfInBounds_toArray, List.set_cons_zero, List.set_cons_succ]
                  refine wpAnyH_take (i := 11) (v := ?_) (by simp only [List.getElem?_toArray, List.getElem?_cons_succ, List.getElem?_cons_zero]; rfl) (by kernel_rfl) (by kernel_rfl) (by kernel_rfl) (by intro _ _ _ h; exact h) (Or.inl ⟨by rfl, ?_⟩) (by assumption) ?_
                  rotate_left
                  · intro w hSw
                    (try dsimp only at hSw)
                    first | (go_simp; done) | (go_simp; with_reducible rfl) | with_reducible rfl
                  simp only [Act.put, List.setIfInBounds_toArray, List.set_cons_zero, List.set_cons_succ]
                  refine wpAnyH_take (i := 12) (v := ?_) (by simp only [List.getElem?_toArray, List.getElem?_cons_succ, List.getElem?_cons_zero]; rfl) (by kernel_rfl) (by kernel_rfl) (by kernel_rfl) (by intro _ _ _ h; exact h) (Or.inl ⟨by rfl, ?_⟩) (by assumption) ?_
                  rotate_left
                  · intro w hSw
                    (try dsimp only at hSw)
                    first | (go_simp; done) | (go_simp; with_reducible rfl) | with_reducible rfl
                  simp only [Act.put, List.setIfInBounds_toArray, List.set_cons_zero, List.set_cons_succ]
                  refine wpAnyH_take (i := 13) (v := ?_) (by simp only [List.getElem?_toArray, List.getElem?_cons_succ, List.getElem?_cons_zero]; rfl) (by kernel_rfl) (by kernel_rfl) (by kernel_rfl) (by intro _ _ _ h; exact h) (Or.inl ⟨by rfl, ?_⟩) (by assumption) ?_
                  rotate_left
                  · intro w hSw
                    (try dsimp only at hSw)
                    first | (go_simp; done) | (go_simp; with_reducible rfl) | with_reducible rfl
                  simp only [Act.put, List.setIfInBounds_toArray, List.set_cons_zero, List.set_cons_succ]
                  refine wpAnyH_take (i := 14) (v := ?_) (by simp only [List.getElem?_toArray, List.getElem?_cons_succ, List.getElem?_cons_zero]; rfl) (by kernel_rfl) (by kernel_rfl) (by kernel_rfl) (by intro _ _ _ h; exact h) (Or.inl ⟨by rfl, ?_⟩) (by assumption) ?_
                  rotate_left
                  · intro w hSw
                    (try dsimp only at hSw)
                    first | (go_simp; done) | (go_simp; with_reducible rfl) | with_reducible rfl
                  simp only [Act.put, List.setIfInBounds_toArray, List.set_cons_zero, List.set_cons_succ]
                  refine wpAnyH_take (i := 15) (v := ?_) (by simp only [List.getElem?_toArray, List.getElem?_cons_succ, List.getElem?_cons_zero]; rfl) (by kernel_rfl) (by kernel_rfl) (by kernel_rfl) (by intro _ _ _ h; exact h) (Or.inl ⟨by rfl, ?_⟩) (by assumption) ?_
                  rotate_left
                  · intro w hSw
                    (try dsimp only at hSw)
                    first | (go_simp; done) | (go_simp; with_reducible rfl) | with_reducible rfl
                  simp only [Act.put, List.setIfInBounds_toArray, List.set_cons_zero, List.set_cons_succ]
                  refine wpAnyH_take (i := 16) (v := ?_) (by simp only [List.getElem?_toArray, List.getElem?_cons_succ, List.getElem?_cons_zero]; rfl) (by kernel_rfl) (by kernel_rfl) (by kernel_rfl) (by intro _ _ _ h; exact h) (Or.inl ⟨by rfl, ?_⟩) (by assumption) ?_
                  rotate_left
                  · intro w hSw
                    (try dsimp only at hSw)
                    first | (go_simp; done) | (go_simp; with_reducible rfl) | with_reducible rfl
                  simp only [Act.put, List.setIfInBounds_toArray, List.set_cons_zero, List.set_cons_succ]
                  refine wpAnyH_take (i := 17) (v := ?_) (by simp only [List.getElem?_toArray, List.getElem?_cons_succ, List.getElem?_cons_zero]; rfl) (by kernel_rfl) (by kernel_rfl) (by kernel_rfl) (by intro _ _ _ h; exact h) (Or.inl ⟨by rfl, ?_⟩) (by assumption) ?_
                  rotate_left
                  · intro w hSw
                    (try dsimp only at hSw)
                    first | (go_simp; done) | (go_simp; with_reducible rfl) | with_reducible rfl
                  simp only [Act.put, List.setIfInBounds_toArray, List.set_cons_zero, List.set_cons_succ]
                  refine wpAnyH_take (i := 18) (v := ?_) (by simp only [List.getElem?_toArray, List.getElem?_cons_succ, List.getElem?_cons_zero]; rfl) (by kernel_rfl) (by kernel_rfl) (by kernel_rfl) (by intro _ _ _ h; exact h) (Or.inl ⟨by rfl, ?_⟩) (by assumption) ?_
                  rotate_left
                  · intro w hSw
                    (try dsimp only at hSw)
                    first | (go_simp; done) | (go_simp; with_reducible rfl) | with_reducible rfl
                  simp only [Act.put, List.setIfInBounds_toArray, List.set_cons_zero, List.set_cons_succ]
                  refine wpAnyH_take (i := 19) (v := ?_) (by simp only [List.getElem?_toArray, List.getElem?_cons_succ, List.getElem?_cons_zero]; rfl) (by kernel_rfl) (by kernel_rfl) (by kernel_rfl) (by intro _ _ _ h; exact h) (Or.inl ⟨by rfl, ?_⟩) (by assumption) ?_
                  rotate_left
                  · intro w hSw
                    (try dsimp only at hSw)
                    first | (go_simp; done) | (go_simp; with_reducible rfl) | with_reducible rfl
                  simp only [Act.put, List.setIfInBounds_toArray, List.set_cons_zero, List.set_cons_succ]
                  refine wpAnyH_take (i := 20) (v := ?_) (by simp only [List.getElem?_toArray, List.getElem?_cons_succ, List.getElem?_cons_zero]; rfl) (by kernel_rfl) (by kernel_rfl) (by kernel_rfl) (by intro _ _ _ h; exact h) (Or.inl ⟨by rfl, ?_⟩) (by assumption) ?_
                  rotate_left
                  · intro w hSw
                    (try dsimp only at hSw)
                    first | (go_simp; done) | (go_simp; with_reducible rfl) | with_reducible rfl
                  simp only [Act.put, List.setIfInBounds_toArray, List.set_cons_zero, List.set_cons_succ]
                  refine wpAnyH_take (i := 21) (v := ?_) (by simp only [List.getElem?_toArray, List.getElem?_cons_succ, List.getElem?_cons_zero]; rfl) (by kernel_rfl) (by kernel_rfl) (by kernel_rfl) (by intro _ _ _ h; exact h) (Or.inl ⟨by rfl, ?_⟩) (by assumption) ?_
                  rotate_left
                  · intro w hSw
                    (try dsimp only at hSw)
                    first | (go_simp; done) | (go_simp; with_reducible rfl) | with_reducible rfl
                  simp only [Act.put, List.setIfInBounds_toArray, List.set_cons_zero, List.set_cons_succ]
                  refine wpAnyH_take (i := 22) (v := ?_) (by simp only [List.getElem?_toArray, List.getElem?_cons_succ, List.getElem?_cons_zero]; rfl) (by kernel_rfl) (by kernel_rfl) (by kernel_rfl) (by intro _ _ _ h; exact h) (Or.inl ⟨by rfl, ?_⟩) (by assumption) ?_
                  rotate_left
                  · intro w hSw
                    (try dsimp only at hSw)
                    first | (go_simp; done) | (go_simp; with_reducible rfl) | with_reducible rfl
                  simp only [Act.put, List.setIfInBounds_toArray, List.set_cons_zero, List.set_cons_succ]
                  refine wpAnyH_take (i := 23) (v := ?_) (by simp only [List.getElem?_toArray, List.getElem?_cons_succ, List.getElem?_cons_zero]; rfl) (by kernel_rfl) (by kernel_rfl) (by kernel_rfl) (by intro _ _ _ h; exact h) (Or.inl ⟨by rfl, ?_⟩) (by assumption) ?_
                  rotate_left
                  · intro w hSw
                    (try dsimp only at hSw)
                    first | (go_simp; done) | (go_simp; with_reducible rfl) | with_reducible rfl
                  simp only [Act.put, List.setIfInBounds_toArray, List.set_cons_zero, List.set_cons_succ]
                  refine wpAnyH_take (i := 24) (v := ?_) (by simp only [List.getElem?_toArray, List.getElem?_cons_succ, List.getElem?_cons_zero]; rfl) (by kernel_rfl) (by kernel_rfl) (by kernel_rfl) (by intro _ _ _ h; exact h) (Or.inl ⟨by rfl, ?_⟩) (by assumption) ?_
                  rotate_left
                  · intro w hSw
                    (try dsimp only at hSw)
                    first | (go_simp; done) | (go_simp; with_reducible rfl) | with_reducible rfl
                  simp only [Act.put, List.setIfInBounds_toArray, List.set_cons_zero, List.set_cons_succ]
                  refine wpAnyH_take (i := 25) (v := ?_) (by simp only [List.getElem?_toArray, List.getElem?_cons_succ, List.getElem?_cons_zero]; rfl) (by kernel_rfl) (by kernel_rfl) (by kernel_rfl) (by intro _ _ _ h; exact h) (Or.inl ⟨by rfl, ?_⟩) (by assumption) ?_
                  rotate_left
                  · intro w hSw
                    (try dsimp only at hSw)
                    first | (go_simp; done) | (go_simp; with_reducible rfl) | with_reducible rfl
                  simp only [Act.put, List.setIfInBounds_toArray, List.set_cons_zero, List.set_cons_succ]
                  refine wpAnyH_take (i := 26) (v := ?_) (by simp only [List.getElem?_toArray, List.getElem?_cons_succ, List.getElem?_cons_zero]; rfl) (by kernel_rfl) (by kernel_rfl) (by kernel_rfl) (by intro _ _ _ h; exact h) (Or.inl ⟨by rfl, ?_⟩) (by assumption) ?_
                  rotate_left
                  · intro w hSw
                    (try dsimp only at hSw)
                    first | (go_simp; done) | (go_simp; with_reducible rfl) | with_reducible rfl
                  simp only [Act.put, List.setIfInBounds_toArray, List.set_cons_zero, List.set_cons_succ]
                  refine wpAnyH_take (i := 27) (v := ?_) (by simp only [List.getElem?_toArray, List.getElem?_cons_succ, List.getElem?_cons_zero]; rfl) (by kernel_rfl) (by kernel_rfl) (by kernel_rfl) (by intro _ _ _ h; exact h) (Or.inl ⟨by rfl, ?_⟩) (by assumption) ?_
                  rotate_left
                  · intro w hSw
                    (try dsimp only at hSw)
                    first | (go_simp; done) | (go_simp; with_reducible rfl) | with_reducible rfl
                  simp only [Act.put, List.setIfInBounds_toArray, List.set_cons_zero, List.set_cons_succ]
                  refine wpAnyH_done (by kernel_rfl) ?_ _
                  go_wp2
                  refine wp_region_held_drew (S := (fun w' => w'.cell? ⟨wr.heap.size, 2, none⟩ = some (.int .i64 sc))) (by kernel_rfl) (HX3.out.cellv 2 rfl) (fun hHeld => ?_)
                  refine wpAnyH_take (i := 0) (v := ?_) (by simp only [List.getElem?_toArray, List.getElem?_cons_succ, List.getElem?_cons_zero]; rfl) (by kernel_rfl) (by kernel_rfl) (by kernel_rfl) (by intro _ _ _ h; exact h) (Or.inl ⟨by rfl, ?_⟩) (by assumption) ?_
                  rotate_left
                  · intro w hSw
                    (try dsimp only at hSw)
                    first | (go_simp; done) | (go_simp; with_reducible rfl) | with_reducible rfl
                  simp only [Act.put, List.setIfInBounds_toArray, List.set_cons_zero, List.set_cons_succ]
                  refine wpAnyH_take (i := 1) (v := ?_) (by simp only [List.getElem?_toArray, List.getElem?_cons_succ, List.getElem?_cons_zero]; rfl) (by kernel_rfl) (by kernel_rfl) (by kernel_rfl) (by intro _ _ _ h; exact h) (Or.inl ⟨by rfl, ?_⟩) (by assumption) ?_
                  rotate_left
                  · intro w hSw
                    (try dsimp only at hSw)
                    first | (go_simp; done) | (go_simp; with_reducible rfl) | with_reducible rfl
                  simp only [Act.put, List.setIfInBounds_toArray, List.set_cons_zero, List.set_cons_succ]
                  refine wpAnyH_take (i := 2) (v := ?_) (by simp only [List.getElem?_toArray, List.getElem?_cons_succ, List.getElem?_cons_zero]; rfl) (by kernel_rfl) (by kernel_rfl) (by kernel_rfl) (by intro _ _ _ h; exact h) (Or.inl ⟨by rfl, ?_⟩) (by assumption) ?_
                  rotate_left
                  · intro w hSw
                    (try dsimp only at hSw)
                    first | (go_simp; done) | (go_simp; with_reducible rfl) | with_reducible rfl
                  simp only [Act.put, List.setIfInBounds_toArray, List.set_cons_zero, List.set_cons_succ]
                  refine wpAnyH_take (i := 3) (v := ?_) (by simp only [List.getElem?_toArray, List.getElem?_cons_succ, List.getElem?_cons_zero]; rfl) (by kernel_rfl) (by kernel_rfl) (by kernel_rfl) (by intro _ _ _ h; exact h) (Or.inl ⟨by rfl, ?_⟩) (by assumption) ?_
                  rotate_left
                  · intro w hSw
                    (try dsimp only at hSw)
                    first | (go_simp; done) | (go_simp; with_reducible rfl) | with_reducible rfl
                  simp only [Act.put, List.setIfInBounds_toArray, List.set_cons_zero, List.set_cons_succ]
                  refine wpAnyH_take (i := 5) (v := ?_) (by simp only [List.getElem?_toArray, List.getElem?_cons_succ, List.getElem?_cons_zero]; rfl) (by kernel_rfl) (by kernel_rfl) (by kernel_rfl) (by intro _ _ _ h; exact h) (Or.inl ⟨by rfl, ?_⟩) (by assumption) ?_
                  rotate_left
                  · intro w hSw
                    (try dsimp only at hSw)
                    first | (go_simp; done) | (go_simp; with_reducible rfl) | with_reducible rfl
                  simp only [Act.put, List.setIfInBounds_toArray, List.set_cons_zero, List.set_cons_succ]
                  refine wpAnyH_take (i := 6) (v := ?_) (by simp only [List.getElem?_toArray, List.getElem?_cons_succ, List.getElem?_cons_zero]; rfl) (by kernel_rfl) (by kernel_rfl) (by kernel_rfl) (by intro _ _ _ h; exact h) (Or.inl ⟨by rfl, ?_⟩) (by assumption) ?_
                  rotate_left
                  · intro w hSw
                    (try dsimp only at hSw)
                    first | (go_simp; done) | (go_simp; with_reducible rfl) | with_reducible rfl
                  simp only [Act.put, List.setIfInBounds_toArray, List.set_cons_zero, List.set_cons_succ]
                  refine wpAnyH_ready (rs := [4]) (by kernel_rfl) (by simp) ?_
                  refine AllReadyH.cons (by simp only [List.getElem?_toArray, List.getElem?_cons_succ, List.getElem?_cons_zero]; rfl) (fun K hK => ?_) AllReadyH.nil
                  go_simp
                  refine hK.out _ _ (HX3.out.cellv 2 rfl) (fun hHeld4 => ?_)
                  clear hK K
                  try simp only [Act.put, List.setIfInBounds_toArray, List.set_cons_zero, List.set_cons_succ]
                  refine wpAnyH_take (i := 7) (v := ?_) (by simp only [List.getElem?_toArray, List.getElem?_cons_succ, List.getElem?_cons_zero]; rfl) (by kernel_rfl) (by kernel_rfl) (by kernel_rfl) (by intro _ _ _ h; exact h) (Or.inl ⟨by rfl, ?_⟩) (by assumption) ?_
                  rotate_left
                  · intro w hSw
                    (try dsimp only at hSw)
                    first | (go_simp; done) | (go_simp; with_reducible rfl) | with_reducible rfl
                  simp only [Act.put, List.setIfInBounds_toArray, List.set_cons_zero, List.set_cons_succ]
                  refine wpAnyH_take (i := 8) (v := ?_) (by simp only [List.getElem?_toArray, List.getElem?_cons_succ, List.getElem?_cons_zero]; rfl) (by kernel_rfl) (by kernel_rfl) (by kernel_rfl) (by intro _ _ _ h; exact h) (Or.inl ⟨by rfl, ?_⟩) (by assumption) ?_
                  rotate_left
                  · intro w hSw
                    (try dsimp only at hSw)
                    first | (go_simp; done) | (go_simp; with_reducible rfl) | with_reducible rfl
                  simp only [Act.put, List.setIfInBounds_toArray, List.set_cons_zero, List.set_cons_succ]
                  refine wpAnyH_take (i := 9) (v := ?_) (by simp only [List.getElem?_toArray, List.getElem?_cons_succ, List.getElem?_cons_zero]; rfl) (by kernel_rfl) (by kernel_rfl) (by kernel_rfl) (by intro _ _ _ h; exact h) (Or.inl ⟨by rfl, ?_⟩) (by assumption) ?_
                  rotate_left
                  · intro w hSw
                    (try dsimp only at hSw)
                    first | (go_simp; done) | (go_simp; with_reducible rfl) | with_reducible rfl
                  simp only [Act.put, List.setIfInBounds_toArray, List.set_cons_zero, List.set_cons_succ]
                  refine wpAnyH_ready (rs := [10]) (by kernel_rfl) (by simp) ?_
                  refine AllReadyH.cons (by simp only [List.getElem?_toArray, List.getElem?_cons_succ, List.getElem?_cons_zero]; rfl) (fun K hK => ?_) AllReadyH.nil
                  go_simp
                  refine hK.out _ _ (HXJ.out.cellv 2 rfl) (fun hHeld10 => ?_)
                  clear hK K
                  try simp only [Act.put, List.setIfInBounds_toArray, List.set_cons_zero, List.set_cons_succ]
                  refine wpAnyH_done (by kernel_rfl) ?_ _
                  go_wp2
                  exact ⟨⟨k + 1, _, rfl, by simp, by omega, (by rw [HNX.out, HST.out, HAD.out]; first | exact HLA.out | exact HLA.out.new (Mod.refl _ _).drew | exact HLA.out.new (Mod.refl _ _).drew.drew), (by first | exact HKU.out | exact owns_mod HKU.out (Mod.refl (fun _ => False) _).drew (fun _ _ q => q) | exact owns_mod HKU.out (Mod.refl (fun _ => False) _).drew.drew (fun _ _ q => q)), (by first | exact HNJ.out | exact HNJ.out.drew | exact HNJ.out.drew.drew)⟩, by simp [intOf]; omega⟩
                · have hptI : (p.frm + p.cnt == sr) = false := by rw [beq_eq_false_iff_ne]; exact hpt
                  have HAD := hid (show addJ (O' ++ [p]) ⟨kf, sr, sc⟩ = (O' ++ [p]) ++ [⟨kf, sr, sc⟩] by
                    unfold addJ
                    rw [hlast]
                    simp only
                    rw [if_neg (fun q => hpt q.2)])
                  clear hpf hpt hm
                  go_wp2
                  refine wp_region_held_drew (S := (fun w' => w'.cell? ⟨g, m * 5 + 1, none⟩ = some (.int .i64 p.file) ∧ w'.cell? ⟨g, m * 5 + 2, none⟩ = some (.int .i64 p.frm) ∧ w'.cell? ⟨g, m * 5 + 3, none⟩ = some (.int .i64 p.cnt) ∧ w'.cell? ⟨wr.heap.size, 0, none⟩ = some (.int .i64 kf) ∧ w'.cell? ⟨wr.heap.size, 1, none⟩ = some (.int .i64 sr) ∧ w'.cell? ⟨wr.heap.size, 2, none⟩ = some (.int .i64 sc))) (by kernel_rfl) ⟨NB.out.cellv y0, NB.out.cellv y1, NB.out.cellv y2, BX.out.cellv 0 rfl, BX.out.cellv 1 rfl, BX.out.cellv 2 rfl⟩ (fun hHeld => ?_)
                  refine wpAnyH_take (i := 0) (v := ?_) (by simp only [List.getElem?_toArray, List.getElem?_cons_succ, List.getElem?_cons_zero]; rfl) (by kernel_rfl) (by kernel_rfl) (by kernel_rfl) (by intro _ _ _ h; exact h) (Or.inl ⟨by rfl, ?_⟩) (by assumption) ?_
                  rotate_left
                  · intro w hSw
                    (try dsimp only at hSw)
                    first | (go_simp; done) | (go_simp; with_reducible rfl) | with_reducible rfl
                  simp only [Act.put, List.setIfInBounds_toArray, List.set_cons_zero, List.set_cons_succ]
                  refine wpAnyH_take (i := 1) (v := ?_) (by simp only [List.getElem?_toArray, List.getElem?_cons_succ, List.getElem?_cons_zero]; rfl) (by kernel_rfl) (by kernel_rfl) (by kernel_rfl) (by intro _ _ _ h; exact h) (Or.inl ⟨by rfl, ?_⟩) (by assumption) ?_
                  rotate_left
                  · intro w hSw
                    (try dsimp only at hSw)
                    first | (go_simp; done) | (go_simp; with_reducible rfl) | with_reducible rfl
                  simp only [Act.put, List.setIfInBounds_toArray, List.set_cons_zero, List.set_cons_succ]
                  refine wpAnyH_take (i := 2) (v := ?_) (by simp only [List.getElem?_toArray, List.getElem?_cons_succ, List.getElem?_cons_zero]; rfl) (by kernel_rfl) (by kernel_rfl) (by kernel_rfl) (by intro _ _ _ h; exact h) (Or.inl ⟨by rfl, ?_⟩) (by assumption) ?_
                  rotate_left
                  · intro w hSw
                    (try dsimp only at hSw)
                    first | (go_simp; done) | (go_simp; with_reducible rfl) | with_reducible rfl
                  simp only [Act.put, List.setIfInBounds_toArray, List.set_cons_zero, List.set_cons_succ]
                  refine wpAnyH_take (i := 3) (v := ?_) (by simp only [List.getElem?_toArray, List.getElem?_cons_succ, List.getElem?_cons_zero]; rfl) (by kernel_rfl) (by kernel_rfl) (by kernel_rfl) (by intro _ _ _ h; exact h) (Or.inl ⟨by rfl, ?_⟩) (by assumption) ?_
                  rotate_left
                  · intro w hSw
                    (try dsimp only at hSw)
                    first | (go_simp; done) | (go_simp; with_reducible rfl) | with_reducible rfl
                  simp only [Act.put, List.setIfInBounds_toArray, List.set_cons_zero, List.set_cons_succ]
                  refine wpAnyH_take (i := 4) (v := ?_) (by simp only [List.getElem?_toArray, List.getElem?_cons_succ, List.getElem?_cons_zero]; rfl) (by kernel_rfl) (by kernel_rfl) (by kernel_rfl) (by intro _ _ _ h; exact h) (Or.inl ⟨by rfl, ?_⟩) (by assumption) ?_
                  rotate_left
                  · intro w hSw
                    (try dsimp only at hSw)
                    first | (go_simp; done) | (go_simp; with_reducible rfl) | with_reducible rfl
                  simp only [Act.put, List.setIfInBounds_toArray, List.set_cons_zero, List.set_cons_succ]
                  refine wpAnyH_take (i := 5) (v := ?_) (by simp only [List.getElem?_toArray, List.getElem?_cons_succ, List.getElem?_cons_zero]; rfl) (by kernel_rfl) (by kernel_rfl) (by kernel_rfl) (by intro _ _ _ h; exact h) (Or.inl ⟨by rfl, ?_⟩) (by assumption) ?_
                  rotate_left
                  · intro w hSw
                    (try dsimp only at hSw)
                    first | (go_simp; done) | (go_simp; with_reducible rfl) | with_reducible rfl
                  simp only [Act.put, List.setIfInBounds_toArray, List.set_cons_zero, List.set_cons_succ]
                  refine wpAnyH_take (i := 6) (v := ?_) (by simp only [List.getElem?_toArray, List.getElem?_cons_succ, List.getElem?_cons_zero]; rfl) (by kernel_rfl) (by kernel_rfl) (by kernel_rfl) (by intro _ _ _ h; exact h) (Or.inl ⟨by rfl, ?_⟩) (by assumption) ?_
                  rotate_left
                  · intro w hSw
                    (try dsimp only at hSw)
                    first | (go_simp; done) | (go_simp; with_reducible rfl) | with_reducible rfl
                  simp only [Act.put, List.setIfInBounds_toArray, List.set_cons_zero, List.set_cons_succ]
                  refine wpAnyH_take (i := 7) (v := ?_) (by simp only [List.getElem?_toArray, List.getElem?_cons_succ, List.getElem?_cons_zero]; rfl) (by kernel_rfl) (by kernel_rfl) (by kernel_rfl) (by intro _ _ _ h; exact h) (Or.inl ⟨by rfl, ?_⟩) (by assumption) ?_
                  rotate_left
                  · intro w hSw
                    (try dsimp only at hSw)
                    first | (go_simp; done) | (go_simp; with_reducible rfl) | with_reducible rfl
                  simp only [Act.put, List.setIfInBounds_toArray, List.set_cons_zero, List.set_cons_succ]
                  refine wpAnyH_take (i := 8) (v := ?_) (by simp only [List.getElem?_toArray, List.getElem?_cons_succ, List.getElem?_cons_zero]; rfl) (by kernel_rfl) (by kernel_rfl) (by kernel_rfl) (by intro _ _ _ h; exact h) (Or.inl ⟨by rfl, ?_⟩) (by assumption) ?_
                  rotate_left
                  · intro w hSw
                    (try dsimp only at hSw)
                    first | (go_simp; done) | (go_simp; with_reducible rfl) | with_reducible rfl
                  simp only [Act.put, List.setIfInBounds_toArray, List.set_cons_zero, List.set_cons_succ]
                  refine wpAnyH_take (i := 9) (v := ?_) (by simp only [List.getElem?_toArray, List.getElem?_cons_succ, List.getElem?_cons_zero]; rfl) (by kernel_rfl) (by kernel_rfl) (by kernel_rfl) (by intro _ _ _ h; exact h) (Or.inl ⟨by rfl, ?_⟩) (by assumption) ?_
                  rotate_left
                  · intro w hSw
                    (try dsimp only at hSw)
                    first | (go_simp; done) | (go_simp; with_reducible rfl) | with_reducible rfl
                  simp only [Act.put, List.setIfInBounds_toArray, List.set_cons_zero, List.set_cons_succ]
                  refine wpAnyH_take (i := 10) (v := ?_) (by simp only [List.getElem?_toArray, List.getElem?_cons_succ, List.getElem?_cons_zero]; rfl) (by kernel_rfl) (by kernel_rfl) (by kernel_rfl) (by intro _ _ _ h; exact h) (Or.inl ⟨by rfl, ?_⟩) (by assumption) ?_
                  rotate_left
                  · intro w hSw
                    (try dsimp only at hSw)
                    first | (go_simp; done) | (go_simp; with_reducible rfl) | with_reducible rfl
                  simp only [Act.put, List.setIfInBounds_toArray, List.set_cons_zero, List.set_cons_succ]
                  refine wpAnyH_take (i := 11) (v := ?_) (by simp only [List.getElem?_toArray, List.getElem?_cons_succ, List.getElem?_cons_zero]; rfl) (by kernel_rfl) (by kernel_rfl) (by kernel_rfl) (by intro _ _ _ h; exact h) (Or.inl ⟨by rfl, ?_⟩) (by assumption) ?_
                  rotate_left
                  · intro w hSw
                    (try dsimp only at hSw)
                    first | (go_simp; done) | (go_simp; with_reducible rfl) | with_reducible rfl
                  simp only [Act.put, List.setIfInBounds_toArray, List.set_cons_zero, List.set_cons_succ]
                  refine wpAnyH_take (i := 12) (v := ?_) (by simp only [List.getElem?_toArray, List.getElem?_cons_succ, List.getElem?_cons_zero]; rfl) (by kernel_rfl) (by kernel_rfl) (by kernel_rfl) (by intro _ _ _ h; exact h) (Or.inl ⟨by rfl, ?_⟩) (by assumption) ?_
                  rotate_left
                  · intro w hSw
                    (try dsimp only at hSw)
                    first | (go_simp; done) | (go_simp; with_reducible rfl) | with_reducible rfl
                  simp only [Act.put, List.setIfInBounds_toArray, List.set_cons_zero, List.set_cons_succ]
                  refine wpAnyH_take (i := 13) (v := ?_) (by simp only [List.getElem?_toArray, List.getElem?_cons_succ, List.getElem?_cons_zero]; rfl) (by kernel_rfl) (by kernel_rfl) (by kernel_rfl) (by intro _ _ _ h; exact h) (Or.inl ⟨by rfl, ?_⟩) (by assumption) ?_
                  rotate_left
                  · intro w hSw
                    (try dsimp only at hSw)
                    first | (go_simp; done) | (go_simp; with_reducible rfl) | with_reducible rfl
                  simp only [Act.put, List.setIfInBounds_toArray, List.set_cons_zero, List.set_cons_succ]
                  refine wpAnyH_take (i := 14) (v := ?_) (by simp only [List.getElem?_toArray, List.getElem?_cons_succ, List.getElem?_cons_zero]; rfl) (by kernel_rfl) (by kernel_rfl) (by kernel_rfl) (by intro _ _ _ h; exact h) (Or.inl ⟨by rfl, ?_⟩) (by assumption) ?_
                  rotate_left
                  · intro w hSw
                    (try dsimp only at hSw)
                    first | (go_simp; done) | (go_simp; with_reducible rfl) | with_reducible rfl
                  simp only [Act.put, List.setIfInBounds_toArray, List.set_cons_zero, List.set_cons_succ]
                  refine wpAnyH_take (i := 15) (v := ?_) (by simp only [List.getElem?_toArray, List.getElem?_cons_succ, List.getElem?_cons_zero]; rfl) (by kernel_rfl) (by kernel_rfl) (by kernel_rfl) (by intro _ _ _ h; exact h) (Or.inl ⟨by rfl, ?_⟩) (by assumption) ?_
                  rotate_left
                  · intro w hSw
                    (try dsimp only at hSw)
                    first | (go_simp; done) | (go_simp; with_reducible rfl) | with_reducible rfl
                  simp only [Act.put, List.setIfInBounds_toArray, List.set_cons_zero, List.set_cons_succ]
                  refine wpAnyH_take (i := 16) (v := ?_) (by simp only [List.getElem?_toArray, List.getElem?_cons_succ, List.getElem?_cons_zero]; rfl) (by kernel_rfl) (by kernel_rfl) (by kernel_rfl) (by intro _ _ _ h; exact h) (Or.inl ⟨by rfl, ?_⟩) (by assumption) ?_
                  rotate_left
                  · intro w hSw
                    (try dsimp only at hSw)
                    first | (go_simp; done) | (go_simp; with_reducible rfl) | with_reducible rfl
                  simp only [Act.put, List.setIfInBounds_toArray, List.set_cons_zero, List.set_cons_succ]
                  refine wpAnyH_take (i := 17) (v := ?_) (by simp only [List.getElem?_toArray, List.getElem?_cons_succ, List.getElem?_cons_zero]; rfl) (by kernel_rfl) (by kernel_rfl) (by kernel_rfl) (by intro _ _ _ h; exact h) (Or.inl ⟨by rfl, ?_⟩) (by assumption) ?_
                  rotate_left
                  · intro w hSw
                    (try dsimp only at hSw)
                    first | (go_simp; done) | (go_simp; with_reducible rfl) | with_reducible rfl
                  simp only [Act.put, List.setIfInBounds_toArray, List.set_cons_zero, List.set_cons_succ]
                  refine wpAnyH_take (i := 18) (v := ?_) (by simp only [List.getElem?_toArray, List.getElem?_cons_succ, List.getElem?_cons_zero]; rfl) (by kernel_rfl) (by kernel_rfl) (by kernel_rfl) (by intro _ _ _ h; exact h) (Or.inl ⟨by rfl, ?_⟩) (by assumption) ?_
                  rotate_left
                  · intro w hSw
                    (try dsimp only at hSw)
                    first | (go_simp; done) | (go_simp; with_reducible rfl) | with_reducible rfl
                  simp only [Act.put, List.setIfInBounds_toArray, List.set_cons_zero, List.set_cons_succ]
                  refine wpAnyH_take (i := 19) (v := ?_) (by simp only [List.getElem?_toArray, List.getElem?_cons_succ, List.getElem?_cons_zero]; rfl) (by kernel_rfl) (by kernel_rfl) (by kernel_rfl) (by intro _ _ _ h; exact h) (Or.inl ⟨by rfl, ?_⟩) (by assumption) ?_
                  rotate_left
                  · intro w hSw
                    (try dsimp only at hSw)
                    first | (go_simp; done) | (go_simp; with_reducible rfl) | with_reducible rfl
                  simp only [Act.put, List.setIfInBounds_toArray, List.set_cons_zero, List.set_cons_succ]
                  refine wpAnyH_take (i := 20) (v := ?_) (by simp only [List.getElem?_toArray, List.getElem?_cons_succ, List.getElem?_cons_zero]; rfl) (by kernel_rfl) (by kernel_rfl) (by kernel_rfl) (by intro _ _ _ h; exact h) (Or.inl ⟨by rfl, ?_⟩) (by assumption) ?_
                  rotate_left
                  · intro w hSw
                    (try dsimp only at hSw)
                    first | (go_simp; done) | (go_simp; with_reducible rfl) | with_reducible rfl
                  simp only [Act.put, List.setIfInBounds_toArray, List.set_cons_zero, List.set_cons_succ]
                  refine wpAnyH_take (i := 21) (v := ?_) (by simp only [List.getElem?_toArray, List.getElem?_cons_succ, List.getElem?_cons_zero]; rfl) (by kernel_rfl) (by kernel_rfl) (by kernel_rfl) (by intro _ _ _ h; exact h) (Or.inl ⟨by rfl, ?_⟩) (by assumption) ?_
                  rotate_left
                  · intro w hSw
                    (try dsimp only at hSw)
                    first | (go_simp; done) | (go_simp; with_reducible rfl) | with_reducible rfl
                  simp only [Act.put, List.setIfInBounds_toArray, List.set_cons_zero, List.set_cons_succ]
                  refine wpAnyH_take (i := 22) (v := ?_) (by simp only [List.getElem?_toArray, List.getElem?_cons_succ, List.getElem?_cons_zero]; rfl) (by kernel_rfl) (by kernel_rfl) (by kernel_rfl) (by intro _ _ _ h; exact h) (Or.inl ⟨by rfl, ?_⟩) (by assumption) ?_
                  rotate_left
                  · intro w hSw
                    (try dsimp only at hSw)
                    first | (go_simp; done) | (go_simp; with_reducible rfl) | with_reducible rfl
                  simp only [Act.put, List.setIfInBounds_toArray, List.set_cons_zero, List.set_cons_succ]
                  refine wpAnyH_take (i := 23) (v := ?_) (by simp only [List.getElem?_toArray, List.getElem?_cons_succ, List.getElem?_cons_zero]; rfl) (by kernel_rfl) (by kernel_rfl) (by kernel_rfl) (by intro _ _ _ h; exact h) (Or.inl ⟨by rfl, ?_⟩) (by assumption) ?_
                  rotate_left
                  · intro w hSw
                    (try dsimp only at hSw)
                    first | (go_simp; done) | (go_simp; with_reducible rfl) | with_reducible rfl
                  simp only [Act.put, List.setIfInBounds_toArray, List.set_cons_zero, List.set_cons_succ]
                  refine wpAnyH_take (i := 24) (v := ?_) (by simp only [List.getElem?_toArray, List.getElem?_cons_succ, List.getElem?_cons_zero]; rfl) (by kernel_rfl) (by kernel_rfl) (by kernel_rfl) (by intro _ _ _ h; exact h) (Or.inl ⟨by rfl, ?_⟩) (by assumption) ?_
                  rotate_left
                  · intro w hSw
                    (try dsimp only at hSw)
                    first | (go_simp; done) | (go_simp; with_reducible rfl) | with_reducible rfl
                  simp only [Act.put, List.setIfInBounds_toArray, List.set_cons_zero, List.set_cons_succ]
                  refine wpAnyH_take (i := 25) (v := ?_) (by simp only [List.getElem?_toArray, List.getElem?_cons_succ, List.getElem?_cons_zero]; rfl) (by kernel_rfl) (by kernel_rfl) (by kernel_rfl) (by intro _ _ _ h; exact h) (Or.inl ⟨by rfl, ?_⟩) (by assumption) ?_
                  rotate_left
                  · intro w hSw
                    (try dsimp only at hSw)
                    first | (go_simp; done) | (go_simp; with_reducible rfl) | with_reducible rfl
                  simp only [Act.put, List.setIfInBounds_toArray, List.set_cons_zero, List.set_cons_succ]
                  refine wpAnyH_take (i := 26) (v := ?_) (by simp only [List.getElem?_toArray, List.getElem?_cons_succ, List.getElem?_cons_zero]; rfl) (by kernel_rfl) (by kernel_rfl) (by kernel_rfl) (by intro _ _ _ h; exact h) (Or.inl ⟨by rfl, ?_⟩) (by assumption) ?_
                  rotate_left
                  · intro w hSw
                    (try dsimp only at hSw)
                    first | (go_simp; done) | (go_simp; with_reducible rfl) | with_reducible rfl
                  simp only [Act.put, List.setIfInBounds_toArray, List.set_cons_zero, List.set_cons_succ]
                  refine wpAnyH_take (i := 27) (v := ?_) (by simp only [List.getElem?_toArray, List.getElem?_cons_succ, List.getElem?_cons_zero]; rfl) (by kernel_rfl) (by kernel_rfl) (by kernel_rfl) (by intro _ _ _ h; exact h) (Or.inl ⟨by rfl, ?_⟩) (by assumption) ?_
                  rotate_left
                  · intro w hSw
                    (try dsimp only at hSw)
                    first | (go_simp; done) | (go_simp; with_reducible rfl) | with_reducible rfl
                  simp only [Act.put, List.setIfInBounds_toArray, List.set_cons_zero, List.set_cons_succ]
                  refine wpAnyH_done (by kernel_rfl) ?_ _
                  go_wp2_with fail
                  refine (HPQ.out _ (N3.out.trans HN3.out)).mono ?_
                  rintro e w4 ⟨rfl, n4⟩
                  have N4 := hid (HN3.out.trans n4)
                  have X4 := hid (New.blk n4 HX3.out)
                  have O4 := hid (HO3.out.new n4)
                  have U4 := hid (owns_mod HU3.out n4 (fun _ _ q => q))
                  clear n4
                  have x0 := X4.out.cellv 0 rfl; have x1 := X4.out.cellv 1 rfl; have x2 := X4.out.cellv 2 rfl; have xl := X4.out.lt
                  go_wp2_with (at_builtin; refine wpList_append_own_at _ rfl _ _ 55 rfl w3.heap.size 62 i0 _ 5 48 Tryz.underlying55 hi hz0 hz1 hz2 rfl (by decide) (.slice (some ⟨g, 0, none⟩) (m + 1) cap) (m + 1) (fetRow (fetOf 2 url name l (O' ++ [p]))) rfl ?owB ⟨w4.heap.size, 0, none⟩ 1 1 (fetCells ⟨2, kf, sr, sc, U⟩) rfl rfl ?hnB ?h1B ?h63B ?hbyB ?hbaB ?_)
                  case owB =>
                    have q := O4.out.new ((Mod.refl (fun _ => False) _).alloc (.cells #[.int .i64 2, .int .i64 kf, .int .i64 sr, .int .i64 sc, .string U] 62))
                    unfold OwnFt at q
                    rw [HFL.out] at q
                    exact q
                  case hnB => intro j u hj; exact World.news_of_block (heap_alloc_new _ _) j u hj
                  case h1B => intro u hu; simp [fetCells] at hu; rcases hu with rfl | rfl | rfl | rfl | rfl <;> rfl
                  case h63B => unfold maxLen; omega
                  case hbyB => omega
                  case hbaB => simp; have := N4.out.size; omega
                  intro v' w' hr2 hg2 hne2 hat
                  have HU9 := hid (World.ownsRow.kept (owns_mod U4.out ((Mod.refl (fun _ => False) _).alloc _) (fun _ _ q => q)) hg2 (owns_sep O4.out U4.out (by decide)))
                  have HN9 : Hid (New w3 w') := hid (New.grown (N4.out.alloc _) hg2 (fun j hj => (World.ownsRow.lt O4.out j hj).1))
                  have HO9 : Hid (OwnFt w' w3.heap.size v' (fetOf 2 url name l (stepJ l (O' ++ [p]) ⟨kf, sr, sc⟩))) := hid (by
                    rw [HST.out, HAD.out, fetOf_app, fetOf_one, HFT.out]
                    exact OwnFt.next HFL.out hr2)
                  clear hr2 hg2 hne2 hat
                  go_wp2
                  exact ⟨⟨k + 1, v', rfl, by simp, by omega, by rw [HNX.out]; exact HO9.out, HU9.out, HN9.out⟩, by simp [intOf]; omega⟩
              · have hpfI : (p.file == (kf : Int)) = false := by rw [beq_eq_false_iff_ne]; exact hpf
                have HAD := hid (show addJ (O' ++ [p]) ⟨kf, sr, sc⟩ = (O' ++ [p]) ++ [⟨kf, sr, sc⟩] by
                  unfold addJ
                  rw [hlast]
                  simp only
                  rw [if_neg (fun q => hpf q.1)])
                clear hpf hm
                go_wp2
                refine wp_region_held_drew (S := (fun w' => w'.cell? ⟨g, m * 5 + 1, none⟩ = some (.int .i64 p.file) ∧ w'.cell? ⟨g, m * 5 + 2, none⟩ = some (.int .i64 p.frm) ∧ w'.cell? ⟨g, m * 5 + 3, none⟩ = some (.int .i64 p.cnt) ∧ w'.cell? ⟨wr.heap.size, 0, none⟩ = some (.int .i64 kf) ∧ w'.cell? ⟨wr.heap.size, 1, none⟩ = some (.int .i64 sr) ∧ w'.cell? ⟨wr.heap.size, 2, none⟩ = some (.int .i64 sc))) (by kernel_rfl) ⟨NB.out.cellv y0, NB.out.cellv y1, NB.out.cellv y2, BX.out.cellv 0 rfl, BX.out.cellv 1 rfl, BX.out.cellv 2 rfl⟩ (fun hHeld => ?_)
                refine wpAnyH_take (i := 0) (v := ?_) (by simp only [List.getElem?_toArray, List.getElem?_cons_succ, List.getElem?_cons_zero]; rfl) (by kernel_rfl) (by kernel_rfl) (by kernel_rfl) (by intro _ _ _ h; exact h) (Or.inl ⟨by rfl, ?_⟩) (by assumption) ?_
                rotate_left
                · intro w hSw
                  (try dsimp only at hSw)
                  first | (go_simp; done) | (go_simp; with_reducible rfl) | with_reducible rfl
                simp only [Act.put, List.setIfInBounds_toArray, List.set_cons_zero, List.set_cons_succ]
                refine wpAnyH_take (i := 1) (v := ?_) (by simp only [List.getElem?_toArray, List.getElem?_cons_succ, List.getElem?_cons_zero]; rfl) (by kernel_rfl) (by kernel_rfl) (by kernel_rfl) (by intro _ _ _ h; exact h) (Or.inl ⟨by rfl, ?_⟩) (by assumption) ?_
                rotate_left
                · intro w hSw
                  (try dsimp only at hSw)
                  first | (go_simp; done) | (go_simp; with_reducible rfl) | with_reducible rfl
                simp only [Act.put, List.setIfInBounds_toArray, List.set_cons_zero, List.set_cons_succ]
                refine wpAnyH_take (i := 2) (v := ?_) (by simp only [List.getElem?_toArray, List.getElem?_cons_succ, List.getElem?_cons_zero]; rfl) (by kernel_rfl) (by kernel_rfl) (by kernel_rfl) (by intro _ _ _ h; exact h) (Or.inl ⟨by rfl, ?_⟩) (by assumption) ?_
                rotate_left
                · intro w hSw
                  (try dsimp only at hSw)
                  first | (go_simp; done) | (go_simp; with_reducible rfl) | with_reducible rfl
                simp only [Act.put, List.setIfInBounds_toArray, List.set_cons_zero, List.set_cons_succ]
                refine wpAnyH_take (i := 3) (v := ?_) (by simp only [List.getElem?_toArray, List.getElem?_cons_succ, List.getElem?_cons_zero]; rfl) (by kernel_rfl) (by kernel_rfl) (by kernel_rfl) (by intro _ _ _ h; exact h) (Or.inl ⟨by rfl, ?_⟩) (by assumption) ?_
                rotate_left
                · intro w hSw
                  (try dsimp only at hSw)
                  first | (go_simp; done) | (go_simp; with_reducible rfl) | with_reducible rfl
                simp only [Act.put, List.setIfInBounds_toArray, List.set_cons_zero, List.set_cons_succ]
                refine wpAnyH_take (i := 4) (v := ?_) (by simp only [List.getElem?_toArray, List.getElem?_cons_succ, List.getElem?_cons_zero]; rfl) (by kernel_rfl) (by kernel_rfl) (by kernel_rfl) (by intro _ _ _ h; exact h) (Or.inl ⟨by rfl, ?_⟩) (by assumption) ?_
                rotate_left
                · intro w hSw
                  (try dsimp only at hSw)
                  first | (go_simp; done) | (go_simp; with_reducible rfl) | with_reducible rfl
                simp only [Act.put, List.setIfInBounds_toArray, List.set_cons_zero, List.set_cons_succ]
                refine wpAnyH_take (i := 5) (v := ?_) (by simp only [List.getElem?_toArray, List.getElem?_cons_succ, List.getElem?_cons_zero]; rfl) (by kernel_rfl) (by kernel_rfl) (by kernel_rfl) (by intro _ _ _ h; exact h) (Or.inl ⟨by rfl, ?_⟩) (by assumption) ?_
                rotate_left
                · intro w hSw
                  (try dsimp only at hSw)
                  first | (go_simp; done) | (go_simp; with_reducible rfl) | with_reducible rfl
                simp only [Act.put, List.setIfInBounds_toArray, List.set_cons_zero, List.set_cons_succ]
                refine wpAnyH_take (i := 6) (v := ?_) (by simp only [List.getElem?_toArray, List.getElem?_cons_succ, List.getElem?_cons_zero]; rfl) (by kernel_rfl) (by kernel_rfl) (by kernel_rfl) (by intro _ _ _ h; exact h) (Or.inl ⟨by rfl, ?_⟩) (by assumption) ?_
                rotate_left
                · intro w hSw
                  (try dsimp only at hSw)
                  first | (go_simp; done) | (go_simp; with_reducible rfl) | with_reducible rfl
                simp only [Act.put, List.setIfInBounds_toArray, List.set_cons_zero, List.set_cons_succ]
                refine wpAnyH_take (i := 7) (v := ?_) (by simp only [List.getElem?_toArray, List.getElem?_cons_succ, List.getElem?_cons_zero]; rfl) (by kernel_rfl) (by kernel_rfl) (by kernel_rfl) (by intro _ _ _ h; exact h) (Or.inl ⟨by rfl, ?_⟩) (by assumption) ?_
                rotate_left
                · intro w hSw
                  (try dsimp only at hSw)
                  first | (go_simp; done) | (go_simp; with_reducible rfl) | with_reducible rfl
                simp only [Act.put, List.setIfInBounds_toArray, List.set_cons_zero, List.set_cons_succ]
                refine wpAnyH_take (i := 8) (v := ?_) (by simp only [List.getElem?_toArray, List.getElem?_cons_succ, List.getElem?_cons_zero]; rfl) (by kernel_rfl) (by kernel_rfl) (by kernel_rfl) (by intro _ _ _ h; exact h) (Or.inl ⟨by rfl, ?_⟩) (by assumption) ?_
                rotate_left
                · intro w hSw
                  (try dsimp only at hSw)
                  first | (go_simp; done) | (go_simp; with_reducible rfl) | with_reducible rfl
                simp only [Act.put, List.setIfInBounds_toArray, List.set_cons_zero, List.set_cons_succ]
                refine wpAnyH_take (i := 9) (v := ?_) (by simp only [List.getElem?_toArray, List.getElem?_cons_succ, List.getElem?_cons_zero]; rfl) (by kernel_rfl) (by kernel_rfl) (by kernel_rfl) (by intro _ _ _ h; exact h) (Or.inl ⟨by rfl, ?_⟩) (by assumption) ?_
                rotate_left
                · intro w hSw
                  (try dsimp only at hSw)
                  first | (go_simp; done) | (go_simp; with_reducible rfl) | with_reducible rfl
                simp only [Act.put, List.setIfInBounds_toArray, List.set_cons_zero, List.set_cons_succ]
                refine wpAnyH_take (i := 10) (v := ?_) (by simp only [List.getElem?_toArray, List.getElem?_cons_succ, List.getElem?_cons_zero]; rfl) (by kernel_rfl) (by kernel_rfl) (by kernel_rfl) (by intro _ _ _ h; exact h) (Or.inl ⟨by rfl, ?_⟩) (by assumption) ?_
                rotate_left
                · intro w hSw
                  (try dsimp only at hSw)
                  first | (go_simp; done) | (go_simp; with_reducible rfl) | with_reducible rfl
                simp only [Act.put, List.setIfInBounds_toArray, List.set_cons_zero, List.set_cons_succ]
                refine wpAnyH_take (i := 11) (v := ?_) (by simp only [List.getElem?_toArray, List.getElem?_cons_succ, List.getElem?_cons_zero]; rfl) (by kernel_rfl) (by kernel_rfl) (by kernel_rfl) (by intro _ _ _ h; exact h) (Or.inl ⟨by rfl, ?_⟩) (by assumption) ?_
                rotate_left
                · intro w hSw
                  (try dsimp only at hSw)
                  first | (go_simp; done) | (go_simp; with_reducible rfl) | with_reducible rfl
                simp only [Act.put, List.setIfInBounds_toArray, List.set_cons_zero, List.set_cons_succ]
                refine wpAnyH_take (i := 12) (v := ?_) (by simp only [List.getElem?_toArray, List.getElem?_cons_succ, List.getElem?_cons_zero]; rfl) (by kernel_rfl) (by kernel_rfl) (by kernel_rfl) (by intro _ _ _ h; exact h) (Or.inl ⟨by rfl, ?_⟩) (by assumption) ?_
                rotate_left
                · intro w hSw
                  (try dsimp only at hSw)
                  first | (go_simp; done) | (go_simp; with_reducible rfl) | with_reducible rfl
                simp only [Act.put, List.setIfInBounds_toArray, List.set_cons_zero, List.set_cons_succ]
                refine wpAnyH_take (i := 13) (v := undef) (by simp only [List.getElem?_toArray, List.getElem?_cons_succ, List.getElem?_cons_zero]; rfl) (by kernel_rfl) (by kernel_rfl) (by kernel_rfl) (by intro _ _ _ h; exact h) (Or.inr ⟨by kernel_rfl, rfl⟩) (by assumption) ?_
                simp only [Act.put, List.setIfInBounds_toArray, List.set_cons_zero, List.set_cons_succ]
                refine wpAnyH_take (i := 14) (v := undef) (by simp only [List.getElem?_toArray, List.getElem?_cons_succ, List.getElem?_cons_zero]; rfl) (by kernel_rfl) (by kernel_rfl) (by kernel_rfl) (by intro _ _ _ h; exact h) (Or.inr ⟨by kernel_rfl, rfl⟩) (by assumption) ?_
                simp only [Act.put, List.setIfInBounds_toArray, List.set_cons_zero, List.set_cons_succ]
                refine wpAnyH_take (i := 15) (v := undef) (by simp only [List.getElem?_toArray, List.getElem?_cons_succ, List.getElem?_cons_zero]; rfl) (by kernel_rfl) (by kernel_rfl) (by kernel_rfl) (by intro _ _ _ h; exact h) (Or.inr ⟨by kernel_rfl, rfl⟩) (by assumption) ?_
                simp only [Act.put, List.setIfInBounds_toArray, List.set_cons_zero, List.set_cons_succ]
                refine wpAnyH_take (i := 16) (v := undef) (by simp only [List.getElem?_toArray, List.getElem?_cons_succ, List.getElem?_cons_zero]; rfl) (by kernel_rfl) (by kernel_rfl) (by kernel_rfl) (by intro _ _ _ h; exact h) (Or.inr ⟨by kernel_rfl, rfl⟩) (by assumption) ?_
                simp only [Act.put, List.setIfInBounds_toArray, List.set_cons_zero, List.set_cons_succ]
                refine wpAnyH_take (i := 17) (v := undef) (by simp only [List.getElem?_toArray, List.getElem?_cons_succ, List.getElem?_cons_zero]; rfl) (by kernel_rfl) (by kernel_rfl) (by kernel_rfl) (by intro _ _ _ h; exact h) (Or.inr ⟨by kernel_rfl, rfl⟩) (by assumption) ?_
                simp only [Act.put, List.setIfInBounds_toArray, List.set_cons_zero, List.set_cons_succ]
                refine wpAnyH_take (i := 18) (v := undef) (by simp only [List.getElem?_toArray, List.getElem?_cons_succ, List.getElem?_cons_zero]; rfl) (by kernel_rfl) (by kernel_rfl) (by kernel_rfl) (by intro _ _ _ h; exact h) (Or.inr ⟨by kernel_rfl, rfl⟩) (by assumption) ?_
                simp only [Act.put, List.setIfInBounds_toArray, List.set_cons_zero, List.set_cons_succ]
                refine wpAnyH_take (i := 19) (v := undef) (by simp only [List.getElem?_toArray, List.getElem?_cons_succ, List.getElem?_cons_zero]; rfl) (by kernel_rfl) (by kernel_rfl) (by kernel_rfl) (by intro _ _ _ h; exact h) (Or.inr ⟨by kernel_rfl, rfl⟩) (by assumption) ?_
                simp only [Act.put, List.setIfInBounds_toArray, List.set_cons_zero, List.set_cons_succ]
                refine wpAnyH_take (i := 20) (v := undef) (by simp only [List.getElem?_toArray, List.getElem?_cons_succ, List.getElem?_cons_zero]; rfl) (by kernel_rfl) (by kernel_rfl) (by kernel_rfl) (by intro _ _ _ h; exact h) (Or.inr ⟨by kernel_rfl, rfl⟩) (by assumption) ?_
                simp only [Act.put, List.setIfInBounds_toArray, List.set_cons_zero, List.set_cons_succ]
                refine wpAnyH_take (i := 21) (v := undef) (by simp only [List.getElem?_toArray, List.getElem?_cons_succ, List.getElem?_cons_zero]; rfl) (by kernel_rfl) (by kernel_rfl) (by kernel_rfl) (by intro _ _ _ h; exact h) (Or.inr ⟨by kernel_rfl, rfl⟩) (by assumption) ?_
                simp only [Act.put, List.setIfInBounds_toArray, List.set_cons_zero, List.set_cons_succ]
                refine wpAnyH_take (i := 22) (v := undef) (by simp only [List.getElem?_toArray, List.getElem?_cons_succ, List.getElem?_cons_zero]; rfl) (by kernel_rfl) (by kernel_rfl) (by kernel_rfl) (by intro _ _ _ h; exact h) (Or.inr ⟨by kernel_rfl, rfl⟩) (by assumption) ?_
                simp only [Act.put, List.setIfInBounds_toArray, List.set_cons_zero, List.set_cons_succ]
                refine wpAnyH_take (i := 23) (v := undef) (by simp only [List.getElem?_toArray, List.getElem?_cons_succ, List.getElem?_cons_zero]; rfl) (by kernel_rfl) (by kernel_rfl) (by kernel_rfl) (by intro _ _ _ h; exact h) (Or.inr ⟨by kernel_rfl, rfl⟩) (by assumption) ?_
                simp only [Act.put, List.setIfInBounds_toArray, List.set_cons_zero, List.set_cons_succ]
                refine wpAnyH_take (i := 24) (v := undef) (by simp only [List.getElem?_toArray, List.getElem?_cons_succ, List.getElem?_cons_zero]; rfl) (by kernel_rfl) (by kernel_rfl) (by kernel_rfl) (by intro _ _ _ h; exact h) (Or.inr ⟨by kernel_rfl, rfl⟩) (by assumption) ?_
                simp only [Act.put, List.setIfInBounds_toArray, List.set_cons_zero, List.set_cons_succ]
                refine wpAnyH_take (i := 25) (v := undef) (by simp only [List.getElem?_toArray, List.getElem?_cons_succ, List.getElem?_cons_zero]; rfl) (by kernel_rfl) (by kernel_rfl) (by kernel_rfl) (by intro _ _ _ h; exact h) (Or.inr ⟨by kernel_rfl, rfl⟩) (by assumption) ?_
                simp only [Act.put, List.setIfInBounds_toArray, List.set_cons_zero, List.set_cons_succ]
                refine wpAnyH_take (i := 26) (v := undef) (by simp only [List.getElem?_toArray, List.getElem?_cons_succ, List.getElem?_cons_zero]; rfl) (by kernel_rfl) (by kernel_rfl) (by kernel_rfl) (by intro _ _ _ h; exact h) (Or.inr ⟨by kernel_rfl, rfl⟩) (by assumption) ?_
                simp only [Act.put, List.setIfInBounds_toArray, List.set_cons_zero, List.set_cons_succ]
                refine wpAnyH_take (i := 27) (v := ?_) (by simp only [List.getElem?_toArray, List.getElem?_cons_succ, List.getElem?_cons_zero]; rfl) (by kernel_rfl) (by kernel_rfl) (by kernel_rfl) (by intro _ _ _ h; exact h) (Or.inl ⟨by rfl, ?_⟩) (by assumption) ?_
                rotate_left
                · intro w hSw
                  (try dsimp only at hSw)
                  first | (go_simp; done) | (go_simp; with_reducible rfl) | with_reducible rfl
                simp only [Act.put, List.setIfInBounds_toArray, List.set_cons_zero, List.set_cons_succ]
                refine wpAnyH_done (by kernel_rfl) ?_ _
                go_wp2_with fail
                refine (HPQ.out _ (N3.out.trans HN3.out)).mono ?_
                rintro e w4 ⟨rfl, n4⟩
                have N4 := hid (HN3.out.trans n4)
                have X4 := hid (New.blk n4 HX3.out)
                have O4 := hid (HO3.out.new n4)
                have U4 := hid (owns_mod HU3.out n4 (fun _ _ q => q))
                clear n4
                have x0 := X4.out.cellv 0 rfl; have x1 := X4.out.cellv 1 rfl; have x2 := X4.out.cellv 2 rfl; have xl := X4.out.lt
                go_wp2_with (at_builtin; refine wpList_append_own_at _ rfl _ _ 55 rfl w3.heap.size 62 i0 _ 5 48 Tryz.underlying55 hi hz0 hz1 hz2 rfl (by decide) (.slice (some ⟨g, 0, none⟩) (m + 1) cap) (m + 1) (fetRow (fetOf 2 url name l (O' ++ [p]))) rfl ?owC ⟨w4.heap.size, 0, none⟩ 1 1 (fetCells ⟨2, kf, sr, sc, U⟩) rfl rfl ?hnC ?h1C ?h63C ?hbyC ?hbaC ?_)
                case owC =>
                  have q := O4.out.new ((Mod.refl (fun _ => False) _).alloc (.cells #[.int .i64 2, .int .i64 kf, .int .i64 sr, .int .i64 sc, .string U] 62))
                  unfold OwnFt at q
                  rw [HFL.out] at q
                  exact q
                case hnC => intro j u hj; exact World.news_of_block (heap_alloc_new _ _) j u hj
                case h1C => intro u hu; simp [fetCells] at hu; rcases hu with rfl | rfl | rfl | rfl | rfl <;> rfl
                case h63C => unfold maxLen; omega
                case hbyC => omega
                case hbaC => simp; have := N4.out.size; omega
                intro v' w' hr2 hg2 hne2 hat
                have HU9 := hid (World.ownsRow.kept (owns_mod U4.out ((Mod.refl (fun _ => False) _).alloc _) (fun _ _ q => q)) hg2 (owns_sep O4.out U4.out (by decide)))
                have HN9 : Hid (New w3 w') := hid (New.grown (N4.out.alloc _) hg2 (fun j hj => (World.ownsRow.lt O4.out j hj).1))
                have HO9 : Hid (OwnFt w' w3.heap.size v' (fetOf 2 url name l (stepJ l (O' ++ [p]) ⟨kf, sr, sc⟩))) := hid (by
                  rw [HST.out, HAD.out, fetOf_app, fetOf_one, HFT.out]
                  exact OwnFt.next HFL.out hr2)
                clear hr2 hg2 hne2 hat
                go_wp2
                exact ⟨⟨k + 1, v', rfl, by simp, by omega, by rw [HNX.out]; exact HO9.out, HU9.out, HN9.out⟩, by simp [intOf]; omega⟩
        · have hke : S.take k = S := List.take_of_length_le (by omega)
          rw [hke, ← HJN.out] at HO
          clear hke
          have hlkI : ¬ (k : Int) < (S.length : Int) := by omega
          go_wp2
          exact ⟨⟨j + 1, o, rfl, by simp; omega, by omega, HO.out, HN.out⟩, by simp [intOf]; have := HCN.out; omega⟩
    · have hje : j = n := by omega
      subst hje
      have hltI : ¬ fr + (j : Int) < fr + cn := by have := HCN.out; omega
      go_wp2
      go_ret2
      exact ⟨_, rfl, by rw [HX.out]; exact HO.out.base (by have := N3.out.size; omega), N3.out.trans HN.out⟩
end Go.Proofs.YtnhgichiedninaaGreatDoor
