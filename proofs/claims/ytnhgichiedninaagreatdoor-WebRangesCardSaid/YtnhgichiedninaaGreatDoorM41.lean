/-
  Several texts in one, in their build order. The walk of Pieces (package web) for texts that fit: the pieces' texts. Conditions: the arguments lie as told; the library's table is laid; the texts fit the parts.
-/
import Derived.Test.YtnhgichiedninaaGreatDoorM40
namespace Go.Proofs.YtnhgichiedninaaGreatDoor
set_option linter.unusedSimpArgs false
set_option linter.unusedVariables false
open Go.RowKit Go.Shelf
attribute [local go_sem] Oper.semAt_some

theorem ba_add (a b : List UInt8) : (⟨a.toArray⟩ : ByteArray) ++ ⟨b.toArray⟩ = ⟨(a ++ b).toArray⟩ := by
  apply ByteArray.ext
  rw [ByteArray.data_append]
  simp
theorem ext_two (t : ByteArray) (d c : Nat) : (t.extract d t.size).extract 0 c = ⟨((t.data.toList.drop d).take c).toArray⟩ := by
  apply ByteArray.ext
  apply Array.ext'
  have e : t.size = t.data.size := rfl
  simp only [ByteArray.data_extract, Array.toList_extract, List.extract_eq_take_drop, List.drop_zero, e]
  rw [show c - 0 = c from rfl, ← Array.length_toList, ← List.length_drop, List.take_length]
set_option maxRecDepth 100000 in
set_option maxHeartbeats 8000000 in
theorem wPieces_ok (a ta : Option Addr) (c tc : Nat) (l : List FileV) (texts : List ByteArray) (piece : Int) (new : Bool) (fr : Int) (n : Nat) (w : World) (h : FilesAt w a c l) (ht : Tab w) (hx : StrsAt w ta tc texts) (h0 : -9223372036854775808 ≤ piece ∧ piece ≤ 9223372036854775807) (f0 : -9223372036854775808 ≤ fr ∧ fr ≤ 9223372036854775807) (c0 : -9223372036854775808 ≤ (n : Int) ∧ (n : Int) ≤ 9223372036854775807) (hok : pieErr l piece new fr n texts = 0) :
    Calls Tryz.prog 26 #[.slice a l.length c, .int .i64 piece, .bool new, .agg #[.int .i64 fr, .int .i64 n], .slice ta texts.length tc] w fun e w' => ∃ G, e = .returned (.tuple #[.slice (some ⟨G, 0, none⟩) n n, .int .i64 0]) ∧ Blk w' G (outA (jnOf l (runSp l piece new fr n)) texts (runP l piece new fr n) fr n) 9 ∧ New w w' := by
  obtain ⟨hv, hr, hfit⟩ := pieErr_valid hok
  rw [Int.toNat_natCast] at hfit
  obtain ⟨r0, r1, r2, r3⟩ := runErr_ok hr
  obtain ⟨hpf, hpl⟩ := parts_facts r0 r1 r3
  have hF := hid h; have hT := hid ht
  have HV := hid (fun W (n : New w W) => (hv ▸ valid_any a c l W (h.new n) (ht.new n) : Calls Tryz.prog 64 #[.slice a l.length c] W fun e w' => e = .returned (.bool true) ∧ New W w'))
  have HRN := hid (fun W (q : New w W) => (hr ▸ run_any a c l piece new fr n W (h.new q) (ht.new q) h0 f0 c0 : Calls Tryz.prog 58 #[.slice a l.length c, .int .i64 piece, .bool new, .agg #[.int .i64 fr, .int .i64 n]] W fun e w' => e = .returned (.int .i64 0) ∧ New W w'))
  have HJN := hid (fun W (q : New w W) => joined_any a c l piece new fr n W (h.new q) (ht.new q) r0 r1 r3)
  have HIT := hid (fun B lp m hm Inv Far q1 q2 q3 q4 W q5 => wspans_iter a c l piece new fr n B lp m hm Inv Far q1 q2 q3 q4 W q5 r0 r1 r3)
  have HSP := hid (fun W => wspans_any a l.length c piece new fr n W)
  have HSM := hid (fun T rest (k : Nat) (q : T ++ rest = runP l piece new fr n) (hk : k < n) => pc_small hfit r0 r1 r3 q hk)
  have HIN := hid (fun (j : Nat) s (q1 : s ∈ spansOf l piece new (fr + (j : Int))) (hj : j < n) => by
    obtain ⟨hvv, hpp⟩ := way_ok r0
    obtain ⟨v1, v2, v3, v4⟩ := valid_facts hvv
    obtain ⟨p1, p2⟩ := piece_range hpp
    exact part_small hv (spans_in new (show 0 < piece by omega) v3 (show 0 ≤ fr + (j : Int) by omega) s q1))
  have HPS := hid (fun p (hp : p ∈ jnOf l (runSp l piece new fr n)) => part_small hv (hpf p hp).1)
  have hn70 : n ≤ 70000 := by
    obtain ⟨p0, p1⟩ := pieces_le (new := new) r0
    omega
  have hfr70 : fr + n ≤ 70000 := by
    obtain ⟨p0, p1⟩ := pieces_le (new := new) r0
    omega
  obtain ⟨S, hS⟩ : ∃ S, S = jnOf l (runSp l piece new fr n) := ⟨_, rfl⟩
  rw [← hS] at hfit hpf hpl HJN HSM HPS ⊢
  have HFIT := hid hfit
  have hlen := hfit.1
  have hxr := hx.room; have hxc := hx.cap
  unfold maxLen at hxc
  have HX := hid hx
  clear h ht hx hS hpf h0 f0 c0 r0 r2 r3 hv hr hok hfit
  refine (callsIn_wide (n := 9)).1 ?_
  refine callsIn_of_wp_marks Tryz.func26 rfl trivial ?_ rfl
  simp only [Tryz.ntmps26, List.size_toArray, List.length_cons, List.length_nil, Nat.reduceAdd, Nat.reduceSub, Array.replicate_succ, Array.replicate_zero, List.push_toArray, List.append_toArray, List.nil_append, List.cons_append]
  have HLEN := hid hlen
  clear hlen
  gi_wp2_with (refine ⟨trivial, ?_⟩; gi_at_call 64; refine (callsIn_wide.2 (HV.out _ (((Mod.refl _ _).alloc _).alloc _))).mono ?_; rintro e w1 ⟨rfl, n1⟩; have N1 : Hid (New w w1) := hid ((((Mod.refl _ w).alloc (.cells #[.int .i64 fr, .int .i64 n] 34)).alloc (.cells #[.slice ta texts.length tc] 22) : New w _).trans n1); have B1 : Hid (Blk w1 w.heap.size #[.int .i64 fr, .int .i64 n] 34) := hid (New.blk n1 ((Blk.new _ _ _).alloc _)); have C1 : Hid (Blk w1 (w.heap.size + 1) #[.slice ta texts.length tc] 22) := hid (New.blk n1 (Blk.newAt (by simp))); clear n1; have d0 := B1.out.cellv 0 rfl; have d1 := B1.out.cellv 1 rfl; have dl := B1.out.lt)
  refine ⟨trivial, (callsIn_wide.2 (HRN.out _ N1.out)).mono ?_⟩
  rintro e w2 ⟨rfl, n2⟩
  have N2 := hid (N1.out.trans n2)
  have B2 := hid (New.blk n2 B1.out)
  have C2 := hid (New.blk n2 C1.out)
  clear n2 d0 d1 dl N1 B1 C1
  have d0 := B2.out.cellv 0 rfl; have d1 := B2.out.cellv 1 rfl; have dl := B2.out.lt
  gi_wp2
  refine ⟨trivial, (callsIn_wide.2 (HJN.out _ N2.out)).mono ?_⟩
  rintro e w3 ⟨v, rfl, o3, n3⟩
  have N3 := hid (N2.out.trans n3)
  have C3 := hid (New.blk n3 C2.out)
  have B3 := hid (New.blk n3 B2.out)
  obtain ⟨sa, sc, rfl, hsa, hsb⟩ := OwnS.spansB o3
  have HS3 := hid hsa
  have hsr := hsa.room; have hsc := hsa.cap
  unfold maxLen at hsc
  clear o3 n3 d0 d1 dl B2 C2 N2 hsa
  have e0 := C3.out.cellv 0 rfl; have el := C3.out.lt
  have hlI : ((S.length : Int) != (texts.length : Int)) = false := by rw [bne_eq_false_iff_eq]; have := HLEN.out; omega
  gi_wp2
  have K4 : Hid (New w (w3.alloc (.cells #[.slice sa S.length sc] 65)) ∧ Blk (w3.alloc (.cells #[.slice sa S.length sc] 65)) w.heap.size #[.int .i64 fr, .int .i64 n] 34 ∧ Blk (w3.alloc (.cells #[.slice sa S.length sc] 65)) (w.heap.size + 1) #[.slice ta texts.length tc] 22 ∧ Blk (w3.alloc (.cells #[.slice sa S.length sc] 65)) w3.heap.size #[.slice sa S.length sc] 65 ∧ SpansAt (w3.alloc (.cells #[.slice sa S.length sc] 65)) sa sc S) := hid ⟨N3.out.alloc _, B3.out.alloc _, C3.out.alloc _, Blk.new _ _ _, HS3.out.new ((Mod.refl _ _).alloc _)⟩
  clear e0 el
  gi_loopw [44] (fun x wr => ∃ k : Nat, x = .int .i64 k ∧ k ≤ S.length ∧ New (w3.alloc (.cells #[.slice sa S.length sc] 65)) wr) (fun x _ => S.length - (intOf x).toNat)
  case atStart => exact ⟨0, rfl, by omega, Mod.refl _ _⟩
  case round =>
    obtain ⟨k, rfl, hk, hn⟩ := hrel
    have HN := hid hn
    obtain ⟨k1, k5, k2, k4, k3⟩ := K4.out
    have e0 := (New.blk hn k2).cellv 0 rfl
    have el := (New.blk hn k2).lt
    by_cases hlt : k < S.length
    · obtain ⟨b1, o1, rfl, hb1, hc1⟩ := (k3.new hn).get (by omega)
      obtain ⟨g0, g1, g2⟩ := hc1 k hlt
      have hkt : k < texts.length := by have := HLEN.out; omega
      obtain ⟨b2, o2, rfl, hb2, hc2⟩ := (HX.out.new (k1.trans hn)).get (by omega)
      have e1 := hc2 k hkt
      have hts := HX.out.small _ (List.getElem_mem hkt)
      unfold maxLen at hts
      have he := HFIT.out.2 k _ _ (List.getElem?_eq_getElem hlt) (List.getElem?_eq_getElem hkt)
      obtain ⟨p, hp⟩ : ∃ p, p = S[k] := ⟨_, rfl⟩
      obtain ⟨t, htt⟩ : ∃ t, t = texts[k]'hkt := ⟨_, rfl⟩
      rw [← hp] at g0 g1 g2 he
      rw [← htt] at e1 hts he
      clear hp htt hc1 hc2 k1 k2 k3 k4 k5 hn
      have heI : ((t.size : Int) != p.cnt) = false := by rw [bne_eq_false_iff_eq]; exact he
      clear he
      gi_wp2_with fail
      gi_quiet (fail)
      gi_wp2
      exact ⟨⟨k + 1, by simp, by omega, Mod.drewN (HN.out.alloc _) _⟩, by simp [intOf]; omega⟩
    · clear k1 k2 k3 k4 k5 hn
      have hms := make_strsN n hn70
      have d0 := (New.blk HN.out K4.out.2.1).cellv 0 rfl; have d1 := (New.blk HN.out K4.out.2.1).cellv 1 rfl; have dl := (New.blk HN.out K4.out.2.1).lt
      gi_wp2
      refine ⟨trivial, (callsIn_wide.2 (HSP.out _)).mono ?_⟩
      rintro e w5 ⟨rfl, rfl⟩
      gi_wp2
      refine name_world (p := fun W => Code.wpIn _ _ _ _ _ _ W) (fun W0 hW0 => ?_)
      clear hms d0 d1 dl e0 el
      obtain ⟨G, hG⟩ : ∃ G, G = wr.heap.size := ⟨_, rfl⟩
      have HGW : Hid (w3.heap.size + 1 ≤ G) := hid (by rw [hG]; have := HN.out.size; simpa using this)
      have hs0 : W0.heap.size = G + 6 := by rw [hW0]; simp [hG]
      have e3 : ((wr.alloc (.cells (Array.replicate n (.string ⟨#[]⟩)) 9)).alloc (.cells #[.slice (some ⟨wr.heap.size, 0, none⟩) n n] 22)).heap.size = G + 2 := by simp [hG]
      obtain ⟨k0, k1, k2, k3, k4⟩ := it_blocks ((wr.alloc (.cells (Array.replicate n (.string ⟨#[]⟩)) 9)).alloc (.cells #[.slice (some ⟨wr.heap.size, 0, none⟩) n n] 22)) a l.length c piece new fr n
      rw [e3] at k0 k1 k2 k3
      have hW0' : W0 = itW ((wr.alloc (.cells (Array.replicate n (.string ⟨#[]⟩)) 9)).alloc (.cells #[.slice (some ⟨wr.heap.size, 0, none⟩) n n] 22)) a l.length c piece new fr n := hW0
      rw [← hW0'] at k0 k1 k2 k3 k4
      have hob : Blk W0 (G + 1) #[.slice (some ⟨G, 0, none⟩) n n] 22 := New.blk k4 (by rw [← hG]; exact Blk.newAt (by simp [hG]))
      have how : Blk W0 G (outA S texts [] fr n) 9 := New.blk k4 (by rw [outA_nil, hG]; exact (Blk.new _ _ _).alloc _)
      have hn0 : New (w3.alloc (.cells #[.slice sa S.length sc] 65)) W0 := HN.out.trans (Mod.trans (((Mod.refl _ wr).alloc _).alloc _) k4)
      rw [← hG]
      clear hW0 hW0' e3 k4 HN hG
      refine wpIn_range rfl (by omega) (gf := 95) (lb := itLb (G + 2)) rfl trivial (enters_of Tryz.func95 (by kernel_rfl) rfl) ?_
      intro fn _ rec hrec
      have hst : New W0 ((W0.alloc (.deferred (some []))).alloc (.loop (rec .ready none))) := ((Mod.refl _ _).alloc _).alloc _
      have hl0 : ((W0.alloc (.deferred (some []))).alloc (.loop (rec .ready none))).heap[W0.heap.size + 1]? = some (.loop (rec .ready none)) := by
        have := World.alloc_heap_new (w := W0.alloc (.deferred (some []))) (o := .loop (rec .ready none))
        rwa [World.size_alloc] at this
      have hd0 : ((W0.alloc (.deferred (some []))).alloc (.loop (rec .ready none))).heap[W0.heap.size]? = some (.deferred (some [])) := (Below.heap_alloc _ _ _ (by simp)).trans (World.alloc_heap_new W0 _)
      rw [hs0] at hrec hl0 hd0 ⊢
      obtain ⟨W1, hW1⟩ : ∃ W1, W1 = (W0.alloc (.deferred (some []))).alloc (.loop (rec .ready none)) := ⟨_, rfl⟩
      rw [← hW1] at hst hl0 hd0 ⊢
      have henv : PEnv W1 G S texts fr n (.loop (rec .ready none)) [] W1 := ⟨hl0, New.blk hst how, Mod.refl _ _⟩
      have HB := hid (And.intro (New.blk hst hob) (And.intro (New.blk hst k0) (And.intro (New.blk hst k1) (And.intro (New.blk hst k2) (And.intro (New.blk hst k3) (And.intro hd0 (hn0.trans hst)))))))
      clear hs0 hob how hn0 k0 k1 k2 k3 hst hl0 hd0 hW1
      have HNW : Hid (∀ lo T W, PEnv W1 G S texts fr n lo T W → New (w3.alloc (.cells #[.slice sa S.length sc] 65)) W) := hid (fun lo T W e => HB.out.2.2.2.2.2.2.trans' e.md (fun i hi q => by have := HGW.out; simp at hi; omega))
      refine (HIT.out (G + 2) (G + 7) 8 (by omega) (fun T W => PEnv W1 G S texts fr n (.loop (rec .ready none)) T W) (PFar G) ?hI ?hN ?hF ?hY _ henv).mono ?fin
      case hI =>
        intro T W e
        obtain ⟨q0, q1, q2, q3, q4, q5, q6⟩ := HB.out
        have hw := K4.out.1.trans (HNW.out _ _ _ e)
        exact ⟨e.md.blk q1 (by omega), e.md.blk q2 (by omega), e.md.blk q3 (by omega), e.md.blk q4 (by omega), hF.out.new hw, hT.out.new hw⟩
      case hN =>
        intro T W W' e hn
        exact e.step hn
      case hF =>
        intro T W W' b e hn hb
        have hl := (Array.getElem?_eq_some_iff.1 e.hL).1
        rcases hb with hb | hb
        · exact ⟨by omega, by omega⟩
        · exact hb
      case fin =>
        rintro e W ⟨hv, hA⟩
        refine ⟨hv, (hA.md.block _ (Array.getElem?_eq_some_iff.1 HB.out.2.2.2.2.2.1).1 (by omega)).trans HB.out.2.2.2.2.2.1, .inl ⟨hA.hL, ?_⟩⟩
        refine name_world (p := fun W => Exit.inBlock _ _ _ _ W) (fun W5 hW5 => ?_)
        have h5 : PEnv W1 G S texts fr n (.loop (rec .exhausted none)) (runP l piece new fr n) W5 := by rw [hW5]; exact hA.put
        have HA5 := hid h5
        have HD5 := hid ((h5.md.block _ (Array.getElem?_eq_some_iff.1 HB.out.2.2.2.2.2.1).1 (by omega)).trans HB.out.2.2.2.2.2.1)
        have c9 := (h5.md.blk HB.out.1 (by omega)).cellv 0 rfl
        have l9 := (h5.md.blk HB.out.1 (by omega)).lt
        clear hA hW5 h5 hv henv hrec
        gi_wp2
        refine ⟨by simp, .inl ⟨_, _, rfl, run_takeDeferred HD5.out, ?_⟩⟩
        refine ⟨_, by simp [results, Tryz.results26, go_sem], ⟨G, rfl, ?_, ?_⟩⟩
        · exact Blk.putObj (by omega) HA5.out.ow
        · exact Mod.putObj (K4.out.1.trans (HNW.out _ _ _ HA5.out)) _ _ (.inr (by have := HGW.out; have := N3.out.size; omega))
      case hY =>
        rintro T j s W hE hj hs ⟨rest, hpre⟩
        refine yieldAt_round hrec hE.hL rfl trivial ?_
        have HE := hid hE
        obtain ⟨hss, hs1⟩ := HIN.out j s hs hj
        have HSS := hid hss
        have hsm := HSM.out T _ j hpre hj
        have HTL := hid (show ((txOf S texts s).length : Int) = s.cnt from tx_len HFIT.out hss.2.1)
        have hsm2 := HSM.out (T ++ [(fr + (j : Int), s)]) rest j (by rw [List.append_assoc]; exact hpre) hj
        rw [pc_app, pc_one, if_pos rfl, List.length_append] at hsm2
        have HLW : Hid (G + 7 < W.heap.size) := hid (Array.getElem?_eq_some_iff.1 hE.hL).1
        obtain ⟨sf, sr, sc'⟩ := s
        obtain ⟨q1, q2, q3⟩ := hss
        simp only at q1 q2 q3 hs1
        clear hE hrec henv hpre hs
        gi_wp2
        refine ⟨ob_alloc HE.out.hL, ?_⟩
        have hLW := HLW.out
        refine name_world (p := fun W => Code.wpIn _ _ _ _ _ _ W) (fun W3 hW3 => ?_)
        have hs3 : W3.heap.size = W.heap.size + 1 := by rw [hW3]; simp
        have hx3 : Blk W3 W.heap.size #[.int .i64 sf, .int .i64 sr, .int .i64 sc'] 113 := by rw [hW3]; exact Blk.putObj (by omega) (Blk.new _ _ _)
        have hE3 : PEnv W1 G S texts fr n (.loop (rec .busy none)) T W3 := by rw [hW3]; exact (HE.out.step ((Mod.refl _ _).alloc _)).put
        have hm3 : Mod (fun k => k = G ∨ k = G + 7) W W3 := by rw [hW3]; exact Mod.putObj ((Mod.refl _ _).alloc _) _ _ (.inl (.inr rfl))
        clear hW3
        have HE3 := hid hE3; have HX3 := hid hx3; have HM3 := hid hm3
        have x2 := hx3.cellv 2 rfl
        have xl := hx3.lt
        obtain ⟨cn, rfl⟩ := Int.eq_ofNat_of_zero_le q2
        have HRP := hid (fun W => repeat_any cn W (by omega))
        clear hE3 hx3 hm3
        gi_wp2
        refine ⟨trivial, (CallsIn.inRound _ (callsIn_wide.2 (HRP.out _))).mono ?_⟩
        rintro e w4 ⟨rfl, n4⟩
        have HE4 := hid (HE3.out.step n4)
        have HX4 := hid (New.blk n4 HX3.out)
        have HM4 := hid (HM3.out.trans n4.mod)
        have HN4 := hid (HNW.out _ _ _ HE4.out)
        clear n4 x2 xl HE3 HX3 HM3
        have e4 := (New.blk HN4.out K4.out.2.2.2.1).cellv 0 rfl
        have el4 := (New.blk HN4.out K4.out.2.2.2.1).lt
        have hIX := pindex_any sa sc S ⟨sf, sr, cn⟩ W.heap.size w4 (K4.out.2.2.2.2.new HN4.out) HX4.out HSS.out (fun p hp => (HPS.out p hp).1)
        obtain ⟨F, hF⟩ : ∃ F, F = fxOf S ⟨sf, sr, cn⟩ := ⟨_, rfl⟩
        rw [← hF] at hIX
        have HIX := hid hIX
        have HFX := hid hF
        clear hIX hF
        gi_wp2
        refine ⟨trivial, (CallsIn.inRound _ (callsIn_wide.2 HIX.out)).mono ?_⟩
        rintro e w6 ⟨rfl, n6⟩
        have HE6 := hid (HE4.out.step n6)
        have HX6 := hid (New.blk n6 HX4.out)
        have HM6 := hid (HM4.out.trans n6.mod)
        have HN6 := hid (HNW.out _ _ _ HE6.out)
        clear n6 e4 el4 HE4 HX4 HM4 HN4 HIX
        have x0 := HX6.out.cellv 0 rfl; have x1 := HX6.out.cellv 1 rfl; have x2 := HX6.out.cellv 2 rfl; have xl := HX6.out.lt
        have r0 := (New.blk HN6.out K4.out.2.1).cellv 0 rfl; have rl := (New.blk HN6.out K4.out.2.1).lt
        have e6 := (New.blk HN6.out K4.out.2.2.2.1).cellv 0 rfl; have el6 := (New.blk HN6.out K4.out.2.2.2.1).lt
        have t6 := (New.blk HN6.out K4.out.2.2.1).cellv 0 rfl; have tl6 := (New.blk HN6.out K4.out.2.2.1).lt
        have o6 := (HE6.out.md.blk HB.out.1 (by omega)).cellv 0 rfl; have ol6 := (HE6.out.md.blk HB.out.1 (by omega)).lt
        have g6 := HE6.out.ow.cellv j (outA_at hj); have gl6 := HE6.out.ow.lt; have gf6 := HE6.out.ow.frz j
        have hwj : IntKind.i64.wrap (fr + (j : Int) - fr) = (j : Int) := by rw [IntKind.wrap_i64]; omega
        have hji : (j : Int) < (n : Int) := by omega
        obtain ⟨P, hP⟩ : ∃ P : ByteArray, P = ⟨(pcOf S texts T (fr + (j : Int))).toArray⟩ := ⟨_, rfl⟩
        have hPs : P.size ≤ 65536 := by rw [hP]; show (pcOf S texts T (fr + (j : Int))).toArray.size ≤ _; simpa using hsm
        rw [← hP] at g6
        have HPP := hid hP
        clear hP
        by_cases hFz : 0 ≤ F
        · obtain ⟨k, p, t, hk, hpk, htk, hsz, h1, h2, htx⟩ := tx_some HFIT.out (by rw [← HFX.out]; exact hFz)
          rw [← HFX.out] at hk
          subst hk
          have hkS : k < S.length := (List.getElem?_eq_some_iff.1 hpk).1
          have hkT : k < texts.length := (List.getElem?_eq_some_iff.1 htk).1
          obtain ⟨b1, o1, rfl, hb1, hc1⟩ := (K4.out.2.2.2.2.new HN6.out).get (by omega)
          obtain ⟨g0, g1, g2⟩ := hc1 k hkS
          obtain ⟨b2, o2, rfl, hb2, hc2⟩ := (HX.out.new (K4.out.1.trans HN6.out)).get (by omega)
          have u2 := hc2 k hkT
          have ep : S[k] = p := (List.getElem?_eq_some_iff.1 hpk).2
          have et : texts[k] = t := (List.getElem?_eq_some_iff.1 htk).2
          rw [ep] at g1
          rw [et] at u2
          have hps := (HPS.out p (List.mem_of_getElem? hpk)).1
          obtain ⟨p1, p2, p3⟩ := hps
          simp only at h1 h2
          clear hc1 hc2 g0 g2 ep et hpk htk
          obtain ⟨pr, hpr⟩ : ∃ pr, pr = p.frm := ⟨_, rfl⟩
          rw [← hpr] at g1 h1 htx h2 p1 p3
          obtain ⟨d, hd⟩ := Int.eq_ofNat_of_zero_le (show 0 ≤ sr - pr by omega)
          simp only at htx
          rw [hd, Int.toNat_natCast, Int.toNat_natCast] at htx
          have HD := hid hd
          have HTX := hid htx
          have hwd : IntKind.i64.wrap (sr - pr) = (d : Int) := by rw [IntKind.wrap_i64]; omega
          have hdt : d + cn ≤ t.size := by omega
          have hd0 : (0 : Int) ≤ (d : Int) := by omega
          have hd1 : (d : Int) ≤ (t.size : Int) := by omega
          have hes : (t.extract d t.size).size = t.size - d := by rw [ByteArray.size_extract]; omega
          have hd2 : (cn : Int) ≤ ((t.size - d : Nat) : Int) := by omega
          have hd3 : (0 : Int) ≤ (cn : Int) := by omega
          clear hpr hd htx hsz
          gi_wp2_with fail
          refine wp_region_round (fun w' => w'.cell? ⟨w.heap.size + 1, 0, none⟩ = some (.slice (some ⟨b2, o2, none⟩) texts.length tc) ∧ w'.cell? ⟨b2, o2 + k, none⟩ = some (.string t) ∧ w'.cell? ⟨W.heap.size, 1, none⟩ = some (.int .i64 sr) ∧ w'.cell? ⟨w3.heap.size, 0, none⟩ = some (.slice (some ⟨b1, o1, none⟩) S.length sc) ∧ w'.cell? ⟨b1, o1 + k * 3 + 1, none⟩ = some (.int .i64 pr) ∧ w'.cell? ⟨W.heap.size, 2, none⟩ = some (.int .i64 cn)) (by kernel_rfl) (noDefer_spec (by kernel_rfl)) (by rintro ⟨a, w, q⟩; exact q) ⟨t6, u2, x1, e6, g1, x2⟩ (fun hHeld => ?_)
          refine wpAnyH_take (i := 0) (v := ?_) (by simp only [List.getElem?_toArray, List.getElem?_cons_succ, List.getElem?_cons_zero]; rfl) (by kernel_rfl) (by kernel_rfl) (by kernel_rfl) (by intro _ _ _ h; exact h) (Or.inl ⟨by rfl, ?_⟩) (by assumption) ?_
          rotate_left
          · intro w hSw
            (try dsimp only at hSw)
            first | (go_simp; done) | (go_simp; with_reducible rfl) | with_reducible rfl
          simp only [Act.put, List.setIfInBounds_toArray, List.set_cons_zero, List.set_cons_succ]
          refine wpAnyH_take (i := 1) (v := ?_) (by simp only [List.getElem?_toArray, List.getElem?_cons_succ, List.getElem?_cons_zero]; rfl) (by kernel_rfl) (by kernel_rfl) (by kernel_rfl) (by intro _ _ _ h; exact h) (Or.inl ⟨by rfl, ?_⟩) (by assumption) ?_
          rotate_left
          · intro w hSw
            (try dsimp only at hSw)
            first | (go_simp; done) | (go_simp; with_reducible rfl) | with_reducible rfl
          simp only [Act.put, List.setIfInBounds_toArray, List.set_cons_zero, List.set_cons_succ]
          refine wpAnyH_take (i := 2) (v := ?_) (by simp only [List.getElem?_toArray, List.getElem?_cons_succ, List.getElem?_cons_zero]; rfl) (by kernel_rfl) (by kernel_rfl) (by kernel_rfl) (by intro _ _ _ h; exact h) (Or.inl ⟨by rfl, ?_⟩) (by assumption) ?_
          rotate_left
          · intro w hSw
            (try dsimp only at hSw)
            first | (go_simp; done) | (go_simp; with_reducible rfl) | with_reducible rfl
          simp only [Act.put, List.setIfInBounds_toArray, List.set_cons_zero, List.set_cons_succ]
          refine wpAnyH_take (i := 3) (v := ?_) (by simp only [List.getElem?_toArray, List.getElem?_cons_succ, List.getElem?_cons_zero]; rfl) (by kernel_rfl) (by kernel_rfl) (by kernel_rfl) (by intro _ _ _ h; exact h) (Or.inl ⟨by rfl, ?_⟩) (by assumption) ?_
          rotate_left
          · intro w hSw
            (try dsimp only at hSw)
            first | (go_simp; done) | (go_simp; with_reducible rfl) | with_reducible rfl
          simp only [Act.put, List.setIfInBounds_toArray, List.set_cons_zero, List.set_cons_succ]
          refine wpAnyH_take (i := 4) (v := ?_) (by simp only [List.getElem?_toArray, List.getElem?_cons_succ, List.getElem?_cons_zero]; rfl) (by kernel_rfl) (by kernel_rfl) (by kernel_rfl) (by intro _ _ _ h; exact h) (Or.inl ⟨by rfl, ?_⟩) (by assumption) ?_
          rotate_left
          · intro w hSw
            (try dsimp only at hSw)
            first | (go_simp; done) | (go_simp; with_reducible rfl) | with_reducible rfl
          simp only [Act.put, List.setIfInBounds_toArray, List.set_cons_zero, List.set_cons_succ]
          refine wpAnyH_take (i := 5) (v := ?_) (by simp only [List.getElem?_toArray, List.getElem?_cons_succ, List.getElem?_cons_zero]; rfl) (by kernel_rfl) (by kernel_rfl) (by kernel_rfl) (by intro _ _ _ h; exact h) (Or.inl ⟨by rfl, ?_⟩) (by assumption) ?_
          rotate_left
          · intro w hSw
            (try dsimp only at hSw)
            first | (go_simp; done) | (go_simp; with_reducible rfl) | with_reducible rfl
          simp only [Act.put, List.setIfInBounds_toArray, List.set_cons_zero, List.set_cons_succ]
          refine wpAnyH_take (i := 6) (v := ?_) (by simp only [List.getElem?_toArray, List.getElem?_cons_succ, List.getElem?_cons_zero]; rfl) (by kernel_rfl) (by kernel_rfl) (by kernel_rfl) (by intro _ _ _ h; exact h) (Or.inl ⟨by rfl, ?_⟩) (by assumption) ?_
          rotate_left
          · intro w hSw
            (try dsimp only at hSw)
            first | (go_simp; done) | (go_simp; with_reducible rfl) | with_reducible rfl
          simp only [Act.put, List.setIfInBounds_toArray, List.set_cons_zero, List.set_cons_succ]
          refine wpAnyH_take (i := 7) (v := ?_) (by simp only [List.getElem?_toArray, List.getElem?_cons_succ, List.getElem?_cons_zero]; rfl) (by kernel_rfl) (by kernel_rfl) (by kernel_rfl) (by intro _ _ _ h; exact h) (Or.inl ⟨by rfl, ?_⟩) (by assumption) ?_
          rotate_left
          · intro w hSw
            (try dsimp only at hSw)
            first | (go_simp; done) | (go_simp; with_reducible rfl) | with_reducible rfl
          simp only [Act.put, List.setIfInBounds_toArray, List.set_cons_zero, List.set_cons_succ]
          refine wpAnyH_take (i := 8) (v := ?_) (by simp only [List.getElem?_toArray, List.getElem?_cons_succ, List.getElem?_cons_zero]; rfl) (by kernel_rfl) (by kernel_rfl) (by kernel_rfl) (by intro _ _ _ h; exact h) (Or.inl ⟨by rfl, ?_⟩) (by assumption) ?_
          rotate_left
          · intro w hSw
            (try dsimp only at hSw)
            first | (go_simp; done) | (go_simp; with_reducible rfl) | with_reducible rfl
          simp only [Act.put, List.setIfInBounds_toArray, List.set_cons_zero, List.set_cons_succ]
          refine wpAnyH_take (i := 9) (v := ?_) (by simp only [List.getElem?_toArray, List.getElem?_cons_succ, List.getElem?_cons_zero]; rfl) (by kernel_rfl) (by kernel_rfl) (by kernel_rfl) (by intro _ _ _ h; exact h) (Or.inl ⟨by rfl, ?_⟩) (by assumption) ?_
          rotate_left
          · intro w hSw
            (try dsimp only at hSw)
            first | (go_simp; done) | (go_simp; with_reducible rfl) | with_reducible rfl
          simp only [Act.put, List.setIfInBounds_toArray, List.set_cons_zero, List.set_cons_succ]
          refine wpAnyH_take (i := 10) (v := ?_) (by simp only [List.getElem?_toArray, List.getElem?_cons_succ, List.getElem?_cons_zero]; rfl) (by kernel_rfl) (by kernel_rfl) (by kernel_rfl) (by intro _ _ _ h; exact h) (Or.inl ⟨by rfl, ?_⟩) (by assumption) ?_
          rotate_left
          · intro w hSw
            (try dsimp only at hSw)
            first | (go_simp; done) | (go_simp; with_reducible rfl) | with_reducible rfl
          simp only [Act.put, List.setIfInBounds_toArray, List.set_cons_zero, List.set_cons_succ]
          refine wpAnyH_take (i := 11) (v := ?_) (by simp only [List.getElem?_toArray, List.getElem?_cons_succ, List.getElem?_cons_zero]; rfl) (by kernel_rfl) (by kernel_rfl) (by kernel_rfl) (by intro _ _ _ h; exact h) (Or.inl ⟨by rfl, ?_⟩) (by assumption) ?_
          rotate_left
          · intro w hSw
            (try dsimp only at hSw)
            first | (go_simp; done) | (go_simp; with_reducible rfl) | with_reducible rfl
          simp only [Act.put, List.setIfInBounds_toArray, List.set_cons_zero, List.set_cons_succ]
          refine wpAnyH_take (i := 12) (v := ?_) (by simp only [List.getElem?_toArray, List.getElem?_cons_succ, List.getElem?_cons_zero]; rfl) (by kernel_rfl) (by kernel_rfl) (by kernel_rfl) (by intro _ _ _ h; exact h) (Or.inl ⟨by rfl, ?_⟩) (by assumption) ?_
          rotate_left
          · intro w hSw
            (try dsimp only at hSw)
            first | (go_simp; done) | (go_simp; with_reducible rfl) | with_reducible rfl
          simp only [Act.put, List.setIfInBounds_toArray, List.set_cons_zero, List.set_cons_succ]
          refine wpAnyH_take (i := 13) (v := ?_) (by simp only [List.getElem?_toArray, List.getElem?_cons_succ, List.getElem?_cons_zero]; rfl) (by kernel_rfl) (by kernel_rfl) (by kernel_rfl) (by intro _ _ _ h; exact h) (Or.inl ⟨by rfl, ?_⟩) (by assumption) ?_
          rotate_left
          · intro w hSw
            (try dsimp only at hSw)
            first | (go_simp; done) | (go_simp; with_reducible rfl) | with_reducible rfl
          simp only [Act.put, List.setIfInBounds_toArray, List.set_cons_zero, List.set_cons_succ]
          refine wpAnyH_take (i := 14) (v := ?_) (by simp only [List.getElem?_toArray, List.getElem?_cons_succ, List.getElem?_cons_zero]; rfl) (by kernel_rfl) (by kernel_rfl) (by kernel_rfl) (by intro _ _ _ h; exact h) (Or.inl ⟨by rfl, ?_⟩) (by assumption) ?_
          rotate_left
          · intro w hSw
            (try dsimp only at hSw)
            first | (go_simp; done) | (go_simp; with_reducible rfl) | with_reducible rfl
          simp only [Act.put, List.setIfInBounds_toArray, List.set_cons_zero, List.set_cons_succ]
          refine wpAnyH_take (i := 15) (v := ?_) (by simp only [List.getElem?_toArray, List.getElem?_cons_succ, List.getElem?_cons_zero]; rfl) (by kernel_rfl) (by kernel_rfl) (by kernel_rfl) (by intro _ _ _ h; exact h) (Or.inl ⟨by rfl, ?_⟩) (by assumption) ?_
          rotate_left
          · intro w hSw
            (try dsimp only at hSw)
            first | (go_simp; done) | (go_simp; with_reducible rfl) | with_reducible rfl
          simp only [Act.put, List.setIfInBounds_toArray, List.set_cons_zero, List.set_cons_succ]
          refine wpAnyH_take (i := 16) (v := ?_) (by simp only [List.getElem?_toArray, List.getElem?_cons_succ, List.getElem?_cons_zero]; rfl) (by kernel_rfl) (by kernel_rfl) (by kernel_rfl) (by intro _ _ _ h; exact h) (Or.inl ⟨by rfl, ?_⟩) (by assumption) ?_
          rotate_left
          · intro w hSw
            (try dsimp only at hSw)
            first | (go_simp; done) | (go_simp; with_reducible rfl) | with_reducible rfl
          simp only [Act.put, List.setIfInBounds_toArray, List.set_cons_zero, List.set_cons_succ]
          refine wpAnyH_done (by kernel_rfl) ?_ _
          gi_wp2_with fail
          have hfin0 := (HE6.out.wr hj (s := ⟨sf, sr, cn⟩) (t := P ++ (t.extract d t.size).extract 0 cn) (by rw [HPP.out, HTX.out, ← ba_add, ext_two])).step ((Mod.refl _ _).drew)
          have hfin := hfin0.put (lo' := .loop (rec .ready none))
          refine ⟨hfin0.hL, rfl, hfin, fun b hb hf => ⟨?_, hf⟩⟩
          exact (Mod.putObj ((Mod.set HM6.out _ _ (.inl (.inl rfl))).drew) _ _ (.inl (.inr rfl))).block b hb (by rintro (q | q); exact hf.1 q; exact hf.2 q)
        · have hFn : ¬ 0 ≤ F := hFz
          have hsum := run_string_add_sum (P := Tryz.prog) (w := w6) P ⟨Array.replicate cn 0⟩ (by show P.size + (Array.replicate cn (0 : UInt8)).size ≤ _; rw [Array.size_replicate]; omega)
          gi_wp2_with fail
          have hfin0 := HE6.out.wr hj (s := ⟨sf, sr, cn⟩) (t := P ++ ⟨Array.replicate cn 0⟩) (by rw [HPP.out, tx_zero (by rw [← HFX.out]; omega), ← ba_add, zerosL, Int.toNat_natCast, List.toArray_replicate])
          have hfin := hfin0.put (lo' := .loop (rec .ready none))
          refine ⟨hfin0.hL, rfl, hfin, fun b hb hf => ⟨?_, hf⟩⟩
          exact (Mod.putObj (Mod.set HM6.out _ _ (.inl (.inl rfl))) _ _ (.inl (.inr rfl))).block b hb (by rintro (q | q); exact hf.1 q; exact hf.2 q)
end Go.Proofs.YtnhgichiedninaaGreatDoor
