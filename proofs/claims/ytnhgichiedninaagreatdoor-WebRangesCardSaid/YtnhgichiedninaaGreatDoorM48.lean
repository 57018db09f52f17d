/-
  Several texts in one, in their build order. The walk of WebRanges. Conditions: the arguments lie as told; the library's tables are laid.
-/
import Derived.Test.YtnhgichiedninaaGreatDoorM46
import Derived.Test.YtnhgichiedninaaGreatDoorM47
import Derived.Test.YtnhgichiedninaaGreatDoorM43
namespace Go.Proofs.YtnhgichiedninaaGreatDoor.webRanges
set_option linter.unusedSimpArgs false
set_option linter.unusedVariables false
open Go.RowKit Go.Shelf

theorem news_one {w : World} {b : Nat} {v : Value} {t : TypeId} (h : b = w.heap.size) : ∀ (j : Nat) (u : Value), [v][j]? = some u → (w.alloc (.cells #[v] t)).cell? ((⟨b, 0, none⟩ : Addr).add j) = some u := by
  intro j u hj
  rw [add_none]
  match j, hj with
  | 0, hj => simp at hj; subst hj; exact (Blk.newAt h).cellv 0 rfl
set_option maxRecDepth 100000 in
set_option maxHeartbeats 8000000 in
theorem law_any (a da : Option Addr) (c dc : Nat) (l : List FileV) (data : List ByteArray) (url name : ByteArray) (piece : Int) (new : Bool) (fr cn spoil : Int) (w : World) (h : FilesAt w a c l) (hd : StrsAt w da dc data) (ht : Tab w) (hz : TzAt w) (hu : url.size ≤ maxLen) (hn : name.size ≤ maxLen) (h0 : -9223372036854775808 ≤ piece ∧ piece ≤ 9223372036854775807) (f0 : -9223372036854775808 ≤ fr ∧ fr ≤ 9223372036854775807) (c0 : -9223372036854775808 ≤ cn ∧ cn ≤ 9223372036854775807) :
    Calls Tryz.prog 5 #[.string url, .string name, .slice a l.length c, .int .i64 piece, .bool new, .agg #[.int .i64 fr, .int .i64 cn], .slice da data.length dc, .int .i64 spoil] w fun e w' => e = .returned (.bool true) ∧ New w w' := by
  unfold maxLen at hu hn
  have HA := hid (fun W (n : New w W) => awake30_any W (ht.new n))
  have hr := h.room; have hc := h.cap; have hdr := hd.room; have hdc := hd.cap
  unfold maxLen at hc hdc
  have N0 : Hid (New w (w.alloc (.cells #[.int .i64 fr, .int .i64 cn] 34))) := hid ((Mod.refl _ w).alloc _)
  by_cases g1 : 45 < l.length
  · clear h hd ht hz
    go_enter Tryz.func5, Tryz.ntmps5
    go_wp2_with fail
    refine (HA.out _ N0.out).mono ?_
    rintro e w99 ⟨rfl, n9⟩
    have N99 := hid n9
    clear n9
    go_wp2
    go_ret
    exact ⟨rfl, (N0.out).trans N99.out⟩
  by_cases g2 : 45 < data.length
  · clear h hd ht hz
    go_enter Tryz.func5, Tryz.ntmps5
    go_wp2_with fail
    refine (HA.out _ N0.out).mono ?_
    rintro e w99 ⟨rfl, n9⟩
    have N99 := hid n9
    clear n9
    go_wp2
    go_ret
    exact ⟨rfl, (N0.out).trans N99.out⟩
  by_cases g3 : 300 < url.size
  · clear h hd ht hz
    go_enter Tryz.func5, Tryz.ntmps5
    go_wp2_with fail
    refine (HA.out _ N0.out).mono ?_
    rintro e w99 ⟨rfl, n9⟩
    have N99 := hid n9
    clear n9
    go_wp2
    go_ret
    exact ⟨rfl, (N0.out).trans N99.out⟩
  by_cases g4 : 150 < name.size
  · clear h hd ht hz
    go_enter Tryz.func5, Tryz.ntmps5
    go_wp2_with fail
    refine (HA.out _ N0.out).mono ?_
    rintro e w99 ⟨rfl, n9⟩
    have N99 := hid n9
    clear n9
    go_wp2
    go_ret
    exact ⟨rfl, (N0.out).trans N99.out⟩
  have HF1 := hid (fun W (q : New w W) => wFetches_any url name a c l piece new fr cn W (h.new q) (ht.new q) (by omega) (by omega) h0 f0 c0)
  have HF2 := hid (fun W (q : New w W) => rFetches_any url name a c l piece new fr cn W (h.new q) (hz.new q) (by omega) (by omega) h0 f0 c0)
  have hok : fetErr url name l piece new fr cn = 0 → ∃ n : Nat, cn = n ∧ validOf l = true ∧ runErr l piece new fr n = 0 ∧ wayErr l piece = 0 ∧ 0 ≤ fr ∧ fr + n ≤ piecesOf l piece new ∧ n ≤ 70000 ∧ fr + n ≤ 70000 ∧ fetRes 2 url name l piece new fr cn = fetOf 2 url name l (jnOf l (runSp l piece new fr n)) := by
    intro q
    obtain ⟨q1, q2⟩ := fetErr_ok q
    obtain ⟨r0, r1, r2, r3⟩ := runErr_ok q2
    obtain ⟨n, rfl⟩ := Int.eq_ofNat_of_zero_le (show 0 ≤ cn by omega)
    obtain ⟨p0, p1⟩ := pieces_le (new := new) r0
    refine ⟨n, rfl, q1, q2, r0, r1, r3, by omega, by omega, ?_⟩
    unfold fetRes
    rw [if_pos q, Int.toNat_natCast]
  have HOK := hid hok
  obtain ⟨E, hE⟩ : ∃ E, E = fetErr url name l piece new fr cn := ⟨_, rfl⟩
  obtain ⟨L, hL⟩ : ∃ L, L = fetRes 2 url name l piece new fr cn := ⟨_, rfl⟩
  rw [← hE, ← hL] at HF1 HF2 HOK
  have HH := hid h; have HD := hid hd; have HT := hid ht
  clear h hd ht hz hok hE hL
  go_enter Tryz.func5, Tryz.ntmps5
  go_wp2_with fail
  refine (HF1.out _ N0.out).mono ?_
  rintro e w1 ⟨v1, rfl, o1, n1⟩
  have N1 := hid (N0.out.trans n1)
  have B1 := hid (New.blk n1 (Blk.new w #[.int .i64 fr, .int .i64 cn] 34))
  obtain ⟨a1, c1, rfl, fa1⟩ := o1.lies
  have FA1 := hid fa1
  clear n1 o1 fa1
  have d0 := B1.out.cellv 0 rfl; have d1 := B1.out.cellv 1 rfl; have dl := B1.out.lt
  go_wp2_with fail
  refine (HF2.out _ N1.out).mono ?_
  rintro e w2 ⟨v2, rfl, o2, n2⟩
  have N2 := hid (N1.out.trans n2)
  have B2 := hid (New.blk n2 B1.out)
  have FB1 := hid (FA1.out.new n2)
  obtain ⟨a2, c2, rfl, fa2⟩ := o2.lies
  have FA2 := hid fa2
  clear n2 o2 fa2 d0 d1 dl B1 FA1
  go_wp2_with fail
  refine (sameFt_any a1 a2 c1 c2 L w2 FB1.out FA2.out).mono ?_
  rintro e w3 ⟨rfl, n3⟩
  have N3 := hid (N2.out.trans n3)
  have B3 := hid (New.blk n3 B2.out)
  have FA3 := hid (FA2.out.new n3)
  clear n3 B2 FA2 FB1
  by_cases hz : E = 0
  · by_cases hlen : data.length = l.length
    · obtain ⟨n, hcn, hvo, hrn, hwy, hfr0, hfr1, hn70, hfn70, hLL⟩ := HOK.out hz
      subst hcn
      subst hz
      obtain ⟨S, hS⟩ : ∃ S, S = jnOf l (runSp l piece new fr n) := ⟨_, rfl⟩
      rw [← hS] at hLL
      have HLEN := hid hlen
      have hlI : ((data.length : Int) != (l.length : Int)) = false := by rw [bne_eq_false_iff_eq]; omega
      have HP0 := hid (And.intro hvo (And.intro hrn (And.intro hwy (And.intro hfr0 hfr1))))
      have HSE := hid hS; have HLL := hid hLL
      clear hlen hvo hrn hwy hfr1 hS hLL HOK
      go_wp2
      go_loopw [94] (fun x wr => ∃ k : Nat, x = .int .i64 k ∧ k ≤ l.length ∧ (∀ (i : Nat) (f : FileV) (t : ByteArray), i < k → l[i]? = some f → data[i]? = some t → fitD f t = true) ∧ New w3 wr) (fun x _ => l.length - (intOf x).toNat)
      case atStart => exact ⟨0, rfl, by omega, by omega, Mod.refl _ _⟩
      case round =>
        obtain ⟨k, rfl, hk, hfit, hn⟩ := hrel
        have HN := hid hn; have HFT := hid hfit
        clear hfit
        by_cases hlt : k < l.length
        · obtain ⟨b1, o1, rfl, hb1, hc1⟩ := HH.out.get (by omega)
          have hkd : k < data.length := by have := HLEN.out; omega
          obtain ⟨b2, o2, rfl, hb2, hc2⟩ := HD.out.get (by omega)
          have hNW := N3.out.trans hn
          obtain ⟨pa, pc, d0, d1, d2, -, -⟩ := (hc1 k hlt).new hNW
          have e0 := New.cellv hNW (hc2 k hkd)
          have hsmall := HD.out.small _ (List.getElem_mem hkd)
          unfold maxLen at hsmall
          have hbw1 : b1 < wr.heap.size := by have := hNW.size; omega
          have hbw2 : b2 < wr.heap.size := by have := hNW.size; omega
          have HFK := hid (List.getElem?_eq_getElem hlt); have HTK := hid (List.getElem?_eq_getElem hkd)
          obtain ⟨f, hf⟩ : ∃ f, f = l[k] := ⟨_, rfl⟩
          obtain ⟨t, htt⟩ : ∃ t, t = data[k] := ⟨_, rfl⟩
          rw [← hf] at d0 d1 d2 HFK
          rw [← htt] at e0 hsmall HTK
          have hkI : (k : Int) < (l.length : Int) := by omega
          have hkJ : (k : Int) < (data.length : Int) := by omega
          clear hf htt hn hNW hc1 hc2
          have HDF := hid d1
          by_cases hsz : (t.size : Int) = f.len
          · have HFI := hid (show fitD f t = true by simp [fitD, hsz])
            have hb1 : ((t.size : Int) == f.len) = true := by simpa using hsz
            have hb2 : ((t.size : Int) != f.len) = false := by simpa using hsz
            have hb3 : decide ((t.size : Int) = f.len) = true := decide_eq_true hsz
            clear hsz
            go_wp2
            go_quiet (fail)
            go_wp2
            exact ⟨⟨k + 1, by simp, by omega, fit_next HFT.out HFK.out HTK.out HFI.out, Mod.drewN (HN.out.alloc _) _⟩, by simp [intOf]; omega⟩
          · have hb1 : ((t.size : Int) == f.len) = false := by simpa using hsz
            have hb2 : ((t.size : Int) != f.len) = true := by simpa using hsz
            have hb3 : decide ((t.size : Int) = f.len) = false := decide_eq_false hsz
            cases hpad : f.pad with
            | false =>
              rw [hpad] at d2
              clear hpad
              go_wp2
              go_quiet (fail)
              go_wp2_with fail
              have N4 := hid (N3.out.trans (Mod.drewN (HN.out.alloc (.cells #[.slice pa f.path.length pc, .int .i64 f.len, .bool false] 60)) nq))
              refine (HA.out _ N4.out).mono ?_
              rintro e w99 ⟨rfl, n9⟩
              have N99 := hid n9
              clear n9
              go_wp2
              go_ret
              exact ⟨rfl, (N4.out).trans N99.out⟩
            | true =>
              rw [hpad] at d2
              by_cases h0 : t.size = 0
              · have hz1 : ((0 : Int) == f.len) = false := by have := hb1; rw [h0] at this; exact this
                have hz2 : ((0 : Int) != f.len) = true := by have := hb2; rw [h0] at this; exact this
                clear hb1 hb2 hb3
                obtain rfl : t = ⟨#[]⟩ := by
                  cases t
                  simp [ByteArray.size] at h0
                  rw [h0]
                have HFI := hid (show fitD f ⟨#[]⟩ = true by have hq : (⟨#[]⟩ : ByteArray).size = 0 := rfl; simp only [fitD, hpad, hq]; simp)
                clear hpad h0
                go_wp2
                go_quiet (fail)
                go_wp2
                exact ⟨⟨k + 1, by simp, by omega, fit_next HFT.out HFK.out HTK.out HFI.out, Mod.drewN (HN.out.alloc _) _⟩, by simp [intOf]; omega⟩
              · have hem : t.toList.isEmpty = false := by
                  rw [ByteArray.toList_eq]
                  have hz : t.data.toList.length ≠ 0 := fun q => h0 (by rw [ByteArray.size, ← Array.length_toList]; exact q)
                  cases hq : t.data.toList with
                  | nil => rw [hq] at hz; exact absurd rfl hz
                  | cons x r => rfl
                clear hpad h0
                go_wp2
                go_quiet (fail)
                go_wp2_with fail
                have N4 := hid (N3.out.trans (Mod.drewN (HN.out.alloc (.cells #[.slice pa f.path.length pc, .int .i64 f.len, .bool true] 60)) nq))
                refine (HA.out _ N4.out).mono ?_
                rintro e w99 ⟨rfl, n9⟩
                have N99 := hid n9
                clear n9
                go_wp2
                go_ret
                exact ⟨rfl, (N4.out).trans N99.out⟩
        · have hfa : fitsD l data = true := fits_all (fun i f t h1 h2 h3 => HFT.out i f t (by have := (List.getElem?_eq_some_iff.1 h2).1; omega) h2 h3)
          have HFA := hid hfa
          have HPF := hid (show ∀ p ∈ S, PartOf l p by rw [HSE.out]; exact (parts_facts HP0.out.2.2.1 HP0.out.2.2.2.1 HP0.out.2.2.2.2).1)
          have hSl : S.length ≤ 2800000 := by rw [HSE.out]; exact (parts_facts HP0.out.2.2.1 HP0.out.2.2.2.1 HP0.out.2.2.2.2).2
          have hLl : L.length = S.length := by rw [HLL.out]; unfold fetOf; rw [List.length_map]
          have HLl := hid hLl
          have N4 := hid (N3.out.trans hn)
          have FA4 := hid (FA3.out.new hn)
          have B4 := hid (New.blk hn B3.out)
          have fr4 := FA4.out.room; have fc4 := FA4.out.cap
          unfold maxLen at fc4
          obtain ⟨i1, hj, hy0, hy1, hy2⟩ := info_parts info_strS
          clear hfa hn hLl HFT HN N3 FA3 B3
          go_wp2
          obtain ⟨Bz, hBz⟩ : ∃ Bz, Bz = wr.heap.size := ⟨_, rfl⟩
          have HBz := hid (show w.heap.size ≤ Bz by rw [hBz]; exact N4.out.size)
          have HBw := hid (show w.heap.size + 1 ≤ Bz by rw [hBz]; have := B4.out.lt; omega)
          have HO0 : Hid (OwS wr Bz (.slice none 0 0) ((S.take 0).map (cutT data))) := hid (by simpa using OwS.nil _ _)
          have HBz2 := hid hBz
          clear hBz
          go_loopw [21, 123] (fun v x wq => ∃ (k : Nat) (o : Value), o = v ∧ x = .int .i64 k ∧ k ≤ L.length ∧ OwS wq Bz o ((S.take k).map (cutT data)) ∧ New wr wq) (fun _ x _ => L.length - (intOf x).toNat)
          case atStart => exact ⟨0, _, rfl, rfl, by omega, HO0.out, Mod.refl _ _⟩
          case round =>
            obtain ⟨k, o, rfl, rfl, hk, ho, hn⟩ := hrel
            have HN := hid hn; have HO := hid ho
            clear ho
            by_cases hlt : k < L.length
            · obtain ⟨b1, o1, rfl, hb1, hc1⟩ := (FA4.out.new hn).get (by omega)
              obtain ⟨x0, x1, x2, x3, x4⟩ := hc1 k hlt
              have hkS : k < S.length := by have := HLl.out; omega
              obtain ⟨kf, xr, xc, hkd, hpe, hrs, hct, hxs⟩ := part_in HLEN.out HFA.out (HPF.out S[k] (List.getElem_mem hkS))
              have hLk : L[k] = fet1 2 url name l S[k] := by
                have e : L[k]? = some (fet1 2 url name l S[k]) := by rw [HLL.out]; unfold fetOf; rw [List.getElem?_map, List.getElem?_eq_getElem hkS]; rfl
                exact (List.getElem?_eq_some_iff.1 e).2
              have hNX := cuts_next data hkS
              rw [hct] at hNX
              rw [hpe] at hLk
              rw [hLk] at x0 x1 x2 x3 x4
              obtain ⟨b2, o2, rfl, hb2, hc2⟩ := HD.out.get (by omega)
              have hNW := N4.out.trans hn
              have e0 := New.cellv hNW (hc2 kf hkd)
              have hsmall := HD.out.small _ (List.getElem_mem hkd)
              unfold maxLen at hsmall
              obtain ⟨t, htt⟩ : ∃ t, t = data[kf] := ⟨_, rfl⟩
              rw [← htt] at e0 hsmall hrs hNX hxs
              have HNX := hid hNX
              have hbw2 : b2 < wr.heap.size := by have := hNW.size; omega
              have hkJ : (kf : Int) < (data.length : Int) := by omega
              have hlen : ((S.take k).map (cutT data)).length = k := by rw [List.length_map, List.length_take]; omega
              obtain ⟨U, hU⟩ : ∃ U, U = (fet1 2 url name l ⟨kf, xr, xc⟩).path := ⟨_, rfl⟩
              rw [← hU] at x4
              have y0 : wr.cell? ⟨b1, o1 + k * 5, none⟩ = some (.int .i64 2) := x0
              have y1 : wr.cell? ⟨b1, o1 + k * 5 + 1, none⟩ = some (.int .i64 kf) := x1
              have y2 : wr.cell? ⟨b1, o1 + k * 5 + 2, none⟩ = some (.int .i64 xr) := x2
              have y3 : wr.cell? ⟨b1, o1 + k * 5 + 3, none⟩ = some (.int .i64 xc) := x3
              clear hn hNW hc1 hc2 hct hpe hLk x0 x1 x2 x3 htt hU hNX
              have hwb := HN.out.size
              have hle : (xr : Int) ≤ (xr : Int) + (xc : Int) := by omega
              have hle2 : (xr : Int) + (xc : Int) ≤ (t.size : Int) := by omega
              have hwr : IntKind.i64.wrap ((xr : Int) + (xc : Int)) = (xr : Int) + (xc : Int) := IntWalk.i64_in _ (by omega)
              have hnt : ((xr : Int) + (xc : Int)).toNat = xr + xc := by omega
              have hk0 : (0 : Int) ≤ (kf : Int) := by omega
              have h63 : ((S.take k).map (cutT data)).length + 1 ≤ maxLen := by rw [hlen]; unfold maxLen; omega
              have hby : (((S.take k).map (cutT data)).length + 1) * 16 ≤ 140737488355328 := by rw [hlen]; omega
              go_wp2
              have K0 := hid (Blk.new wr #[.int .i64 2, .int .i64 kf, .int .i64 xr, .int .i64 xc, .string U] 62)
              have z1 := K0.out.cellv (v := .int .i64 kf) 1 rfl; have z2 := K0.out.cellv (v := .int .i64 xr) 2 rfl; have z3 := K0.out.cellv (v := .int .i64 xc) 3 rfl
              have ze := New.cellv (Mod.alloc (Mod.refl (fun _ => False) wr) (.cells #[.int .i64 2, .int .i64 kf, .int .i64 xr, .int .i64 xc, .string U] 62)) e0
              have hba : Bz ≤ wr.heap.size + 1 := by have := HBz2.out; omega
              have hmin : min k S.length = k := by omega
              have hU : (t.extract xr (xr + xc)).size ≤ maxLen := by rw [hxs]; unfold maxLen; omega
              go_region_held3 (fun w' => w'.cell? ⟨wr.heap.size, 1, none⟩ = some (.int .i64 kf) ∧ w'.cell? ⟨wr.heap.size, 2, none⟩ = some (.int .i64 xr) ∧ w'.cell? ⟨wr.heap.size, 3, none⟩ = some (.int .i64 xc) ∧ w'.cell? ⟨b2, o2 + kf, none⟩ = some (.string t)) ((first | exact ⟨z1, z2, z3, ze⟩ | exact ⟨v1, v2, v3, ve⟩ | go_keep)) ((first | (refine step_append_lies _ (by rfl) _ _ _ (by rfl) Bz 9 i1 _ 1 16 Tryz.underlying22 hj hy0 hy1 hy2 (by rfl) (by omega) o _ _ (by rfl) (HO.out.new ((((Mod.refl _ _).alloc _).drew).alloc _)).row ⟨wr.heap.size + 1, 0, none⟩ 1 1 [.string (t.extract xr (xr + xc))] (by rfl) (by rfl) (news_one (by simp)) (by intro u hu; simp at hu; subst hu; rfl) (by omega) h63 hby (by simp; omega) _ (by rfl) ?_; intro g cap w5 hown hgrow hat hglt; have B5 := ((K0.out.drew).alloc (.cells #[.string (t.extract xr (xr + xc))] 9)).of_heap (hgrow.block wr.heap.size (by simp; omega) (fun q => by have := (HO.out.block q.symm).2; omega)); have v1 := B5.cellv (v := .int .i64 kf) 1 rfl; have v2 := B5.cellv (v := .int .i64 xr) 2 rfl; have v3 := B5.cellv (v := .int .i64 xc) 3 rfl; have ve := Mod.cellv (Mod.of_grown hgrow) (New.cellv ((((Mod.refl (fun _ => False) wr).alloc (.cells #[.int .i64 2, .int .i64 kf, .int .i64 xr, .int .i64 xc, .string U] 62)).drew).alloc (.cells #[.string (t.extract xr (xr + xc))] 9)) e0) (fun q => by have h1 := (HO.out.block q.symm).1; have h2 := HBz.out; simp only at h1; omega)) | fail))
              all_goals go_wp2
              all_goals
                have hown2 := owS_of HO.out.small hU hown
                rw [hlen, ← HNX.out] at hown2
                exact ⟨⟨k + 1, .slice (some ⟨g, 0, none⟩) (k + 1) cap, by first | rfl | rw [hmin], by simp, by omega, hown2, New.grown (HN.out.trans ((((Mod.refl _ _).alloc _).drew).alloc _)) hgrow (fun j hj => by have h1 := (HO.out.block hj).1; have h2 := HBz2.out; omega)⟩, by simp [intOf]; omega⟩
            · have htk : S.take k = S := List.take_of_length_le (by have := HLl.out; omega)
              rw [htk] at HO
              obtain ⟨X, hX⟩ : ∃ X, X = S.map (cutT data) := ⟨_, rfl⟩
              rw [← hX] at HO
              have hfit : fitsP S X := by rw [hX]; exact cut_fits HLEN.out HPF.out HFA.out
              have HFIT := hid hfit; have HX := hid hX
              have N5 := hid (N4.out.trans hn); have B5 := hid (New.blk hn B4.out)
              obtain ⟨a5, c5, rfl, hs5, -⟩ := HO.out.strs
              have sr5 := hs5.room; have sc5 := hs5.cap
              unfold maxLen at sc5
              have HPC := hid (wPieces_ok a a5 c c5 l X piece new fr n wr (HH.out.new N5.out) (HT.out.new N5.out) hs5 h0 f0 ⟨by omega, by omega⟩ (pie_zero HP0.out.1 HP0.out.2.1 (by rw [← HSE.out]; exact hfit)))
              rw [← HSE.out] at HPC
              have d0 := B5.out.cellv 0 rfl; have d1 := B5.out.cellv 1 rfl; have dl := B5.out.lt
              clear hn HN N4 B4 hs5 hfit hX htk FA4 HO0 fr4 fc4
              go_wp2_with fail
              refine HPC.out.mono ?_
              rintro e w6 ⟨G, rfl, hg, n6⟩
              have N6 := hid (N5.out.trans n6)
              have B6 := hid (New.blk n6 B5.out); have HO6 := hid (HO.out.new n6); have HG6 := hid hg
              clear n6 d0 d1 dl B5 N5 hg HPC HO
              have d0 := B6.out.cellv 0 rfl; have d1 := B6.out.cellv 1 rfl; have dl := B6.out.lt
              go_wp2
              go_loopw [164] (fun x wr => ∃ (k : Nat), x = .int .i64 k ∧ k ≤ n ∧ New w6 wr) (fun x _ => n - (intOf x).toNat)
              case atStart => exact ⟨0, rfl, by omega, Mod.refl _ _⟩
              case round =>
                clear d0 d1 dl
                obtain ⟨k, rfl, hk, hn⟩ := hrel
                have HN := hid hn
                by_cases hlt : k < n
                · have hb := New.blk hn HG6.out
                  have g0 := hb.cellv k (outA_at hlt)
                  have gl := hb.lt
                  have d0 := (New.blk hn B6.out).cellv 0 rfl; have dl := (New.blk hn B6.out).lt
                  obtain ⟨F, hF⟩ := Int.eq_ofNat_of_zero_le (show 0 ≤ fr + (k : Int) by omega)
                  have hwF : IntKind.i64.wrap (fr + (k : Int)) = (F : Int) := by rw [IntKind.wrap_i64]; omega
                  have hrd := pieces_read (l := l) (data := data) (piece := piece) (new := new) (fr := fr) (n := n) HP0.out.2.2.1 HP0.out.2.2.2.1 HLEN.out hlt
                  rw [← HSE.out, ← HX.out] at hrd
                  rw [hrd, hF] at g0
                  obtain ⟨q1, q2⟩ := read_ok (l := l) (data := data) (piece := piece) (new := new) (i := (F : Int)) HP0.out.2.2.1 HLEN.out HFA.out (by omega) (by have := HP0.out.2.2.2.2; omega)
                  obtain ⟨SP, hSP⟩ : ∃ SP, SP = spansOf l piece new (F : Int) := ⟨_, rfl⟩
                  have HSPN := rSpansOwn_any a c l piece F new wr (HH.out.new (N6.out.trans hn)) h0.1 h0.2 HP0.out.2.2.1 (by have := HP0.out.2.2.2.2; omega)
                  rw [← hSP] at g0 q1 q2 HSPN
                  obtain ⟨P, hP⟩ : ∃ P : ByteArray, P = ⟨(readOf l data SP).toArray⟩ := ⟨_, rfl⟩
                  rw [← hP] at g0
                  have HQ1 := hid q1; have HQ2 := hid q2; have HPP := hid hP; have HSPN := hid HSPN
                  clear hn hb hF hrd q1 q2 hSP hP
                  go_wp2_with fail
                  refine HSPN.out.mono ?_
                  rintro e w7 ⟨v7, rfl, o7, n7⟩
                  obtain ⟨a7, c7, rfl, hs7, -⟩ := o7.spansB
                  have N7 := hid (HN.out.trans n7)
                  have HRD := rRead_any a da a7 c dc c7 l data SP w7 (HH.out.new (N6.out.trans N7.out)) (HD.out.new (N6.out.trans N7.out)) hs7
                  rw [HQ1.out, HQ2.out, ← HPP.out] at HRD
                  have HRD := hid HRD
                  have sr7 := hs7.room; have sc7 := hs7.cap
                  unfold maxLen at sc7
                  clear o7 n7 hs7 d0 dl g0 gl
                  go_wp2_with fail
                  refine HRD.out.mono ?_
                  rintro e w8 ⟨rfl, n8⟩
                  have N8 := hid (N7.out.trans n8)
                  clear n8
                  go_wp2
                  exact ⟨⟨k + 1, by simp, by omega, N8.out⟩, by simp [intOf]; omega⟩
                · have N7 := hid (N6.out.trans hn)
                  have B7 := hid (New.blk hn B6.out); have HO7 := hid (HO6.out.new hn)
                  clear hn HN
                  by_cases hX0 : 0 < X.length
                  · have hX0I : (0 : Int) < (X.length : Int) := by omega
                    obtain ⟨kk, hkk, hsp, hs1, hs2⟩ := spoil_at spoil hX0
                    obtain ⟨g, rfl, -, hg0, hgl, hgf, hgc⟩ := HO7.out.at' hX0
                    have gc := hgc kk hkk
                    have gf := hgf kk
                    obtain ⟨t, ht⟩ : ∃ t, t = X[kk] := ⟨_, rfl⟩
                    rw [← ht] at gc
                    have hts : t.size ≤ 1000000 := by
                      have h1 := HFIT.out.2 kk (S[kk]'(by rw [← HFIT.out.1]; exact hkk)) t (List.getElem?_eq_getElem _) (by rw [ht]; exact List.getElem?_eq_getElem hkk)
                      obtain ⟨q1, -⟩ := part_small HP0.out.1 (HPF.out (S[kk]'(by rw [← HFIT.out.1]; exact hkk)) (List.getElem_mem _)).1
                      obtain ⟨q2, q3, q4⟩ := q1
                      omega
                    have hXl : X.length ≤ 2800000 := by rw [HFIT.out.1]; exact hSl
                    have hm0 : ((X.length : Int) == 0) = false := by rw [beq_eq_false_iff_ne]; omega
                    have hw1 : IntKind.i64.wrap (spoil.tmod (X.length : Int) + (X.length : Int)) = spoil.tmod (X.length : Int) + (X.length : Int) := by rw [IntKind.wrap_i64]; omega
                    have hw2 : wrap64 (spoil.tmod (X.length : Int) + (X.length : Int)) = spoil.tmod (X.length : Int) + (X.length : Int) := by unfold wrap64; omega
                    have hkI : (kk : Int) < (X.length : Int) := by omega
                    have hsum : ∀ w, (Op.stringOp .add t ⟨#[120]⟩).run Tryz.prog w = .ok (.string (t ++ ⟨#[120]⟩)) w := fun w => run_string_add_sum (w := w) _ _ (by show t.size + 1 ≤ _; omega)
                    have hgw : w.heap.size < g := by have := HBw.out; omega
                    have hgw2 : w.heap.size ≠ g := by omega
                    have hnf1 := spoilt HFIT.out hkk (t := t ++ ⟨#[120]⟩) (by rw [ByteArray.size_append, ht]; rfl)
                    have hpu := HO7.out.put hkk (t := t ++ ⟨#[120]⟩) (by rw [ByteArray.size_append]; show t.size + 1 ≤ _; unfold maxLen; omega)
                    have N8 : Hid (New w (wr.setCell ⟨g, kk, none⟩ (.string (t ++ ⟨#[120]⟩)))) := hid (Mod.set N7.out _ _ (.inr (by have := HBz.out; simp only; omega)))
                    have B8 : Hid (Blk (wr.setCell ⟨g, kk, none⟩ (.string (t ++ ⟨#[120]⟩))) w.heap.size #[.int .i64 fr, .int .i64 n] 34) := hid (Blk.other (by have := HBz.out; have := HBw.out; simp only; omega) B7.out)
                    have d0 := B8.out.cellv 0 rfl; have d1 := B8.out.cellv 1 rfl; have dl := B7.out.lt
                    have d2 := B7.out.cellv 0 rfl; have d3 := B7.out.cellv 1 rfl
                    obtain ⟨a8, c8, e8, hs8, -⟩ := hpu.strs
                    rw [List.length_set] at e8
                    cases e8
                    have HKK := hid hkk; have HSPO := hid hsp
                    have HP8 := wPieces_bad a (some ⟨g, 0, none⟩) c c5 l (X.set kk (t ++ ⟨#[120]⟩)) piece new fr n _ (HH.out.new N8.out) (HT.out.new N8.out) hs8 h0 f0 ⟨by omega, by omega⟩ (by rw [pie_size HP0.out.1 HP0.out.2.1 (by rw [← HSE.out]; exact hnf1)]; decide)
                    rw [pie_size HP0.out.1 HP0.out.2.1 (by rw [← HSE.out]; exact hnf1), List.length_set] at HP8
                    have HP8 := hid HP8; have HS8 := hid hs8
                    have hnf2 : ¬ fitsP S ((X.set kk (t ++ ⟨#[120]⟩)).take kk) := fewer (by rw [List.length_set]; exact HFIT.out.1) (by rw [List.length_set]; exact hkk)
                    have HP9 := hid (fun W (q : New (wr.setCell ⟨g, kk, none⟩ (.string (t ++ ⟨#[120]⟩))) W) => by
                      have h9 := wPieces_bad a (some ⟨g, 0, none⟩) c c5 l ((X.set kk (t ++ ⟨#[120]⟩)).take kk) piece new fr n W (HH.out.new (N8.out.trans q)) (HT.out.new (N8.out.trans q)) ((HS8.out.new q).take kk) h0 f0 ⟨by omega, by omega⟩ (by rw [pie_size HP0.out.1 HP0.out.2.1 (by rw [← HSE.out]; exact hnf2)]; decide)
                      rw [pie_size HP0.out.1 HP0.out.2.1 (by rw [← HSE.out]; exact hnf2), List.length_take, List.length_set, Nat.min_eq_left (by omega)] at h9
                      exact h9)
                    have hkc : (kk : Int) ≤ (c5 : Int) := by omega
                    have hk0 : (0 : Int) ≤ (kk : Int) := by omega
                    clear hgc hpu hs8 hnf1 hnf2 ht hX0 HO7 B7
                    go_wp2_with fail
                    refine HP8.out.mono ?_
                    rintro e w9 ⟨v9, rfl, n9⟩
                    have N9 := hid (N8.out.trans n9)
                    have B9 := hid (New.blk n9 B8.out)
                    have M9 := hid n9
                    clear n9 d0 d1 dl d2 d3 gc gf
                    have d0 := B9.out.cellv 0 rfl; have d1 := B9.out.cellv 1 rfl; have dl := B9.out.lt
                    go_wp2_with fail
                    go_region_held3 (fun w' => w'.cell? ⟨w.heap.size, 0, none⟩ = some (.int .i64 fr) ∧ w'.cell? ⟨w.heap.size, 1, none⟩ = some (.int .i64 n)) ((first | exact ⟨d0, d1⟩ | exact ⟨b0, b1⟩ | go_keep)) ((first | (go_at_call 26; refine (HP9.out _ M9.out.drew).mono ?_; rintro e wA ⟨vA, rfl, nA⟩; have NA : Hid (New w wA) := hid (N9.out.drew.trans nA); have BA := New.blk nA B9.out.drew; have b0 := BA.cellv 0 rfl; have b1 := BA.cellv 1 rfl) | fail))
                    go_wp2_with fail
                    refine (HA.out _ NA.out).mono ?_
                    rintro e w99 ⟨rfl, n9⟩
                    have N99 := hid n9
                    clear n9
                    go_wp2
                    go_ret
                    exact ⟨rfl, (NA.out).trans N99.out⟩
                  · have hX0I : ¬ (0 : Int) < (X.length : Int) := by omega
                    go_wp2_with fail
                    refine (HA.out _ N7.out).mono ?_
                    rintro e w99 ⟨rfl, n9⟩
                    have N99 := hid n9
                    clear n9
                    go_wp2
                    go_ret
                    exact ⟨rfl, (N7.out).trans N99.out⟩
    · have hlI : ((data.length : Int) != (l.length : Int)) = true := by rw [bne_iff_ne]; omega
      subst hz
      clear HOK
      go_wp2_with fail
      refine (HA.out _ N3.out).mono ?_
      rintro e w99 ⟨rfl, n9⟩
      have N99 := hid n9
      clear n9
      go_wp2
      go_ret
      exact ⟨rfl, (N3.out).trans N99.out⟩
  · have hzI : (E != 0) = true := by rw [bne_iff_ne]; exact hz
    clear HOK
    go_wp2_with fail
    refine (HA.out _ N3.out).mono ?_
    rintro e w99 ⟨rfl, n9⟩
    have N99 := hid n9
    clear n9
    go_wp2
    go_ret
    exact ⟨rfl, (N3.out).trans N99.out⟩
end Go.Proofs.YtnhgichiedninaaGreatDoor.webRanges
