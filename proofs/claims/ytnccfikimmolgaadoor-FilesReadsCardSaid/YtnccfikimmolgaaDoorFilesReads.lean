/-
  FilesReads returns true, for every input, its arguments as they were; the three tables of the library tied to the program's text. No condition but the row's own ('laid').
-/
import Derived.Test.YtnccfikimmolgaaDoorLaw5
import Derived.Test.YtnccfikimmolgaaDoorRr
import Derived.Test.YtnccfikimmolgaaDoorTie
import Derived.Test.YtnccfikimmolgaaDoorCards
import Derived.SevenTiedAt
namespace Go.Proofs.YtnccfikimmolgaaDoor.filesReads
set_option linter.unusedSimpArgs false
set_option linter.unusedVariables false
open Go.ChangeShapes Go.WideShapes Go.ChangeAt Go.RowKit Go.Deep

section
variable {H : Type} {enc : TypeId × Value → H} {w : World} {base : Nat} {spare : Nat → Bool} {held : Bool}
theorem span_list (len : Nat) {P : Nat → SpanV → Prop} (h : ∀ i, i < len → ∃ s, P i s) : ∃ L : List SpanV, L.length = len ∧ ∀ (i : Nat) (s : SpanV), L[i]? = some s → P i s := by
  induction len with
  | zero => exact ⟨[], rfl, by simp⟩
  | succ n ih =>
    obtain ⟨L, hL, hp⟩ := ih (fun i hi => h i (by omega))
    obtain ⟨s, hs⟩ := h n (by omega)
    refine ⟨L ++ [s], by simp [hL], fun i t ht => ?_⟩
    by_cases hi : i < L.length
    · rw [List.getElem?_append_left hi] at ht
      exact hp i t ht
    · have hin : i = n := by
        have := (List.getElem?_eq_some_iff.1 ht).1
        simp at this
        omega
      subst hin
      rw [List.getElem?_append_right (by omega), hL] at ht
      simp at ht
      exact ht ▸ hs
theorem open_spans {fuel : Nat} {cs : List Value} {x : DataW H × List MemPlace} (h : DataW.trod enc Tryd.prog w base spare held fuel 37 cs = some x) : ∃ a c l, cs = [.slice a l.length c] ∧ SpansAt w a c l := by
  rcases open_slice_fields Tryd.underlying37 Tryd.underlying42 (by kernel_rfl) (by kernel_rfl) h with ⟨hcs, _⟩ | ⟨a, len, cap, m, D, Pl, hcs, _, hl, hmx, hmm, _, hcell⟩
  · exact ⟨none, 0, [], by simpa using hcs, by simp, by simp [maxLen], .inl rfl⟩
  · have hlm : len ≤ m := by rw [hmm]; split <;> omega
    have hc : ∀ i, i < len → ∃ s : SpanV, w.cell? (a.add (i * 3)) = some (.int .i64 s.file) ∧ w.cell? (a.add (i * 3 + 1)) = some (.int .i64 s.frm) ∧ w.cell? (a.add (i * 3 + 2)) = some (.int .i64 s.cnt) := by
      intro i hi
      obtain ⟨ys, n, _, _, _, hfs⟩ := hcell i (by omega)
      obtain ⟨u0, y0, e0, _, t0⟩ := hfs 0 _ rfl
      obtain ⟨u1, y1, e1, _, t1⟩ := hfs 1 _ rfl
      obtain ⟨u2, y2, e2, _, t2⟩ := hfs 2 _ rfl
      obtain ⟨x0, c0, -, -⟩ := DataW.trod_int Tryd.underlying3 t0
      obtain ⟨x1, c1, -, -⟩ := DataW.trod_int Tryd.underlying3 t1
      obtain ⟨x2, c2, -, -⟩ := DataW.trod_int Tryd.underlying3 t2
      simp at c0 c1 c2
      subst c0 c1 c2
      exact ⟨⟨x0, x1, x2⟩, e0, e1, e2⟩
    obtain ⟨L, hL, hp⟩ := span_list len hc
    subst hL
    refine ⟨some a, cap, L, hcs, hl, hmx, ?_⟩
    by_cases hz : L.length = 0
    · exact .inl (List.eq_nil_of_length_eq_zero hz)
    · obtain ⟨s, e0, -⟩ := hc 0 (by omega)
      have hs := cell_spot e0
      obtain ⟨b, o, sp⟩ := a
      have hs' : sp = none := hs
      subst hs'
      refine .inr ⟨b, o, rfl, World.block_lt_of_cell? _ _ e0, fun i s hs => ?_⟩
      obtain ⟨q0, q1, q2⟩ := hp i s hs
      rw [add_none] at q0 q1 q2
      exact ⟨q0, by simpa [Nat.add_assoc] using q1, by simpa [Nat.add_assoc] using q2⟩
end

set_option maxRecDepth 100000 in
set_option maxHeartbeats 4000000 in
theorem law_any (a da sa : Option Addr) (c dc sc : Nat) (l : List FileV) (data : List ByteArray) (S : List SpanV) (w : World) (h : FilesAt w a c l) (hd : StrsAt w da dc data) (hs : SpansAt w sa sc S) (ht : Tab w) :
    Calls Tryd.prog 8 #[.slice a l.length c, .slice da data.length dc, .slice sa S.length sc] w fun e w' => e = .returned (.bool true) ∧ New w w' := by
  have HL := hid (light_any a c l w h)
  have HR := hid (fun W (n' : New w W) => Read_any a da sa c dc sc l data S W (h.new n') (hd.new n') (hs.new n') (ht.new n'))
  have HRR := hid (fun W (n' : New w W) => rRead_any a da sa c dc sc l data S W (h.new n') (hd.new n') (hs.new n'))
  have HA := hid (fun W (n : New w W) => awake_any W (ht.new n))
  obtain ⟨E, hE⟩ : ∃ E, E = readErr l data S := ⟨_, rfl⟩
  obtain ⟨X, hX⟩ : ∃ X : ByteArray, X = ⟨(readX l data S).toArray⟩ := ⟨_, rfl⟩
  rw [← hE, ← hX] at HR HRR
  clear hE hX
  have hdr := hd.room; have hdc := hd.cap; have hsr := hs.room; have hsc := hs.cap
  unfold maxLen at hdc hsc
  have HD := hid hd
  clear h ht hs hd
  go_enter Tryd.func8, Tryd.ntmps8
  go_wp2_with fail
  refine HL.out.mono ?_
  rintro e w1 ⟨⟨v, rfl⟩, n1⟩
  have N1 := hid n1
  clear n1
  cases v with
  | false =>
    go_wp2_with fail
    refine (HA.out _ N1.out).mono ?_
    rintro e w9 ⟨rfl, n9⟩
    have N9 := hid n9
    clear n9
    go_wp2
    go_ret
    exact ⟨rfl, (N1.out).trans N9.out⟩
  | true =>
    by_cases h60 : 60 < data.length
    · go_wp2_with fail
      refine (HA.out _ N1.out).mono ?_
      rintro e w9 ⟨rfl, n9⟩
      have N9 := hid n9
      clear n9
      go_wp2
      go_ret
      exact ⟨rfl, (N1.out).trans N9.out⟩
    by_cases h61 : 60 < S.length
    · go_wp2_with fail
      refine (HA.out _ N1.out).mono ?_
      rintro e w9 ⟨rfl, n9⟩
      have N9 := hid n9
      clear n9
      go_wp2
      go_ret
      exact ⟨rfl, (N1.out).trans N9.out⟩
    go_wp2
    go_loopw [29] (fun x wr => ∃ k : Nat, x = .int .i64 k ∧ k ≤ data.length ∧ New w wr) (fun x _ => data.length - (intOf x).toNat)
    case atStart => exact ⟨0, rfl, by omega, N1.out⟩
    case round =>
      obtain ⟨k, rfl, hk, hn⟩ := hrel
      have HN := hid hn
      by_cases hlt : k < data.length
      · obtain ⟨b2, o2, rfl, hb2, hc2⟩ := HD.out.get (by omega)
        have e0 := hn.cellv (hc2 k hlt)
        obtain ⟨t, htt⟩ : ∃ t, t = data[k] := ⟨_, rfl⟩
        have hts : t.size ≤ 9223372036854775807 := by have := HD.out.small _ (List.getElem_mem hlt); rw [htt]; exact this
        rw [← htt] at e0
        have hbw : b2 < wr.heap.size := by have := hn.size; omega
        clear hc2 htt hn
        by_cases hbig : 3000 < t.size
        · go_wp2_with fail
          refine (HA.out _ HN.out).mono ?_
          rintro e w9 ⟨rfl, n9⟩
          have N9 := hid n9
          clear n9
          go_wp2
          go_ret
          exact ⟨rfl, (HN.out).trans N9.out⟩
        · go_wp2
          go_roundw
          case rel => exact ⟨k + 1, by simp, by omega, HN.out⟩
          case measure => simp [intOf]; omega
      · clear hn
        go_wp2_with fail
        refine (HR.out _ HN.out).mono ?_
        rintro e w2 ⟨rfl, n2⟩
        have N2 := hid (HN.out.trans n2)
        clear n2
        go_wp2_with fail
        refine (HRR.out _ N2.out).mono ?_
        rintro e w3 ⟨rfl, n3⟩
        have N3 := hid (N2.out.trans n3)
        clear n3
        go_wp2_with fail
        refine (HA.out _ N3.out).mono ?_
        rintro e w9 ⟨rfl, n9⟩
        have N9 := hid n9
        clear n9
        go_wp2
        go_ret
        exact ⟨rfl, (N3.out).trans N9.out⟩

set_option maxRecDepth 100000 in
theorem lifted (os : Os) (started : os.Started) (H : Type) (enc : TypeId × Value → H) :
    ReturnsInHanded {} Tryd.checked os 8 .any (fun w args => (Rows.filesReadsSpec.pre enc Tryd.prog Tryd.f8 [] false w args ∧ laidMetH Tryd.prog tables w) ∧ sizedMet enc Tryd.prog Tryd.f8 (OpenSpec.ofChange Rows.filesReadsSpec) false w args)
      (Rows.filesReadsSpec.post enc Tryd.prog Tryd.f8 false true false false) := by
  refine returnsInHanded_of_change_and (C := Tryd.checked) (X := fun w _ => laidMetH Tryd.prog tables w) (fun _ _ _ hh h => h.of_heap hh) own started (by kernel_rfl) Tryd.func8
    (ChangeSpec.witness_shaped (enc := enc) (C := Tryd.checked) (os := os) (X := fun w _ => laidMetH Tryd.prog tables w) false (World.doorLaid Tryd.prog 24 os) #[.slice none 0 0, .slice none 0 0, .slice none 0 0] 8 rfl (World.shaped_of_RefB (by kernel_rfl) (by kernel_rfl)) (by kernel_rfl) (by kernel_rfl) (by kernel_rfl) (door_met os _)) ?_
  intro W base args ds gs before hval0 hW _ _ hL _
  have hval : ∀ (j : Nat) t v, Tryd.f8.params[j]? = some t → args[j]? = some v → Value.okWide Tryd.prog W .any base t v := hval0
  have hW' := hW
  obtain ⟨p, q, hA0, hV, rfl, hfz, hnd⟩ := hW
  have hA : DataW.TrodAll enc Tryd.prog W 0 (fun _ => true) true Tryd.f8.params.toList args.toList ds p := hA0
  rw [Tryd.params8] at hA hval
  obtain ⟨v0, vs0, d0, ds0, p0, q0, hargs, rfl, rfl, h0, r0⟩ := trodAll_cons hA
  obtain ⟨v1, vs1, d1, ds1, p1, q1, rfl, rfl, rfl, h1, r1⟩ := trodAll_cons r0
  obtain ⟨v2, vs2, d2, ds2, p2, q2, rfl, rfl, rfl, h2, r2⟩ := trodAll_cons r1
  obtain ⟨rfl, rfl, rfl⟩ := trodAll_nil r2
  obtain rfl : args = #[v0, v1, v2] := by cases args; simp_all
  obtain ⟨rfl, rfl⟩ := trodVars_none hV
  have k0 := h0
  have k1 := h1
  have k2 := h2
  have lt0 : ∀ x ∈ p0, x.block < W.heap.size := by obtain ⟨m, hm⟩ := k0; exact DataW.trod_lt m _ _ _ hm
  have lt1 : ∀ x ∈ p1, x.block < W.heap.size := by obtain ⟨m, hm⟩ := k1; exact DataW.trod_lt m _ _ _ hm
  have lt2 : ∀ x ∈ p2, x.block < W.heap.size := by obtain ⟨m, hm⟩ := k2; exact DataW.trod_lt m _ _ _ hm
  obtain ⟨a_l, len_l, c_l, rfl⟩ := okWide_slice Tryd.underlying22 (hval 0 22 v0 rfl rfl)
  obtain ⟨l, hlen_l, h_l⟩ : ∃ l, l.length = len_l ∧ FilesAt W a_l c_l l := by
    obtain ⟨fuel, hf⟩ := h0
    obtain ⟨a', c', l, hcs, hfa⟩ := open_files hf
    simp [Value.cells] at hcs
    obtain ⟨rfl, rfl, rfl⟩ := hcs
    exact ⟨l, rfl, hfa⟩
  subst hlen_l
  obtain ⟨a_data, len_data, c_data, rfl⟩ := okWide_slice Tryd.underlying43 (hval 1 43 v1 rfl rfl)
  obtain ⟨data, hlen_data, h_data⟩ : ∃ data, data.length = len_data ∧ StrsAt W a_data c_data data := by
    obtain ⟨fuel, hf⟩ := h1
    obtain ⟨a', c', l, hcs, hfa⟩ := open_path (v := .slice a_data len_data c_data) hf
    cases hcs
    exact ⟨l, rfl, hfa⟩
  subst hlen_data
  obtain ⟨a_S, len_S, c_S, rfl⟩ := okWide_slice Tryd.underlying37 (hval 2 37 v2 rfl rfl)
  obtain ⟨S, hlen_S, h_S⟩ : ∃ S, S.length = len_S ∧ SpansAt W a_S c_S S := by
    obtain ⟨fuel, hf⟩ := h2
    obtain ⟨a', c', l, hcs, hfa⟩ := open_spans hf
    simp [Value.cells] at hcs
    obtain ⟨rfl, rfl, rfl⟩ := hcs
    exact ⟨l, rfl, hfa⟩
  subst hlen_S
  have ht := tab_of hL
  clear hA0 hval0
  refine (law_any a_l a_data a_S c_l c_data c_S l data S W h_l h_data h_S ht).mono fun e W' ⟨he, hn⟩ => ?_
  subst he
  have bel : Below W.heap.size W W' := hn.below _ (Nat.le_refl _) (fun _ _ x => x)
  exact ⟨_, rfl, _, _, _, [], _, [], hW', trodAll_mk1 (shut_bool Tryd.underlying4 _), (trodAll_cons_mk (Below.trod laidOut (by kernel_rfl) (of_decide_eq_true (by kernel_rfl)) k0 bel lt0) (trodAll_cons_mk (Below.trod laidOut (by kernel_rfl) (of_decide_eq_true (by kernel_rfl)) k1 bel lt1) (trodAll_cons_mk (Below.trod laidOut (by kernel_rfl) (of_decide_eq_true (by kernel_rfl)) k2 bel lt2) trodAll_mk0))), rfl, bel.frame _, fun h => by cases h⟩

theorem over : Rows.FilesReadsSaid :=
  OpenClaim.holds_of_wide 8 Tryd.f8 rfl rfl rfl rfl rfl rfl rfl ⟨rfl, rfl, rfl, rfl, rfl⟩ rfl rfl rfl rfl rfl (by kernel_rfl) Tryd.func8 (by kernel_rfl)
    (of_decide_eq_true (by kernel_rfl)) (by unfold Func.isWrapper; first | (rw [if_pos (by decide +kernel)]; kernel_rfl) | (rw [if_neg (by decide +kernel)]; exact ⟨rfl, rfl⟩))
    (fun os started H enc _ => lifted os started H enc)

theorem proved : Rows.FilesReadsCardSaid :=
  Claim7.holds_tied_plain_at .later [] [.data, .data, .data] true Rows.filesReadsCard.stood.harness true
    over (fun _ h => by cases h) (by kernel_rfl) (fun _ h => by cases h) filesReads_row_tie rfl ⟨rfl, rfl⟩ (by kernel_rfl) rfl
    (fun f fn hf hfn => by
      obtain rfl : f = 8 := Option.some.inj ((show Tryd.prog.funcNamed "covey/coveylaw05.FilesReads" = some 8 by kernel_rfl).symm.trans hf) |>.symm
      obtain rfl : fn = Tryd.f8 := (Option.some.inj (Tryd.func8.symm.trans hfn)).symm
      exact ⟨by kernel_rfl, fun j t ht => by
        rw [Tryd.params8] at ht
        have hm : t ∈ [22, 43, 37] := by simpa using Array.mem_of_getElem? ht
        have hall : ([22, 43, 37].all fun u => !Tryd.prog.wantsStandIn u) = true := by kernel_rfl
        exact (show Tryd.prog.wantsStandIn t = false by simpa using List.all_eq_true.1 hall t hm)⟩)
    (by kernel_rfl)
#print axioms proved
end Go.Proofs.YtnccfikimmolgaaDoor.filesReads
