/-
  Several texts in one, in their build order. The walk of Pieces (package web), for every list, run and texts. Conditions: they lie as told; the library's table is laid. The walk of Pieces (package web), what it refuses: files, runs, texts of other lengths. Conditions: the arguments lie as told; the library's table is laid.
-/
import Derived.Test.YtnhgichiedninaaGreatDoorM26
import Derived.Test.YtnhgichiedninaaGreatDoorM30
import Derived.Test.YtnhgichiedninaaGreatDoorM31
import Derived.Test.YtnhgichiedninaaGreatDoorM23
import Derived.Test.YtnhgichiedninaaGreatDoorM32
import Derived.Test.YtnhgichiedninaaGreatDoorM39
namespace Go.Proofs.YtnhgichiedninaaGreatDoor
set_option linter.unusedSimpArgs false
set_option linter.unusedVariables false
open Go.RowKit Go.Shelf
attribute [local go_sem] Oper.semAt_some

theorem wpOp_wide {n : Nat} {P : Program} {ops : Array Oper} {Q : Exit → Act → World → Prop} {i : Nat} {K : Act → World → Prop} {a : Act} {w : World} (hno : ¬ LetsOut Q)
    (h : wpOp P ops Q i K a w) : wpOpIn Fence.wide n P ops Q i K a w := by
  unfold wpOp at h
  unfold wpOpIn
  cases ho : ops[i]? with
  | none => rw [ho] at h; exact h
  | some o =>
    rw [ho] at h
    simp only at h ⊢
    by_cases hw : Region.wanted o (yielded ops a.tmps) = true
    · rw [if_pos hw] at h ⊢
      rcases h with h | ⟨-, h⟩
      · unfold Oper.wp at h
        unfold Oper.wpIn
        refine ⟨fun _ _ => trivial, ?_⟩
        rw [show Fence.wide.round = none from rfl, Oper.semAt_none]
        generalize (execOp a.eval o).run P w = r at *
        cases r with
        | ok x w' =>
          cases x <;> simp only [Oper.upon, Oper.uponIn] at h ⊢
          all_goals first
            | exact h
            | exact ⟨fun q => (by simp [Fence.wide] at q), callsIn_wide.2 h⟩
            | exact ⟨fun q => (by simp [Fence.wide] at q), rows_wide h⟩
            | exact h.elim
        | halt x w' => cases x <;> simp only [Oper.upon, Oper.uponIn] at h ⊢ <;> exact h
      · exact absurd h hno
    · rw [if_neg hw] at h ⊢
      exact ⟨fun _ _ => trivial, h⟩
theorem wpAny_wide {n : Nat} {P : Program} {ops : Array Oper} {md : Region.Mode} {Q : Exit → Act → World → Prop} (hno : ¬ LetsOut Q) :
    ∀ (fuel : Nat) (listed : Array Bool) (a : Act) (w : World), wpAny P md ops Q fuel listed a w → wpAnyIn Fence.wide n P md ops Q fuel listed a w
  | 0, _, _, _, h => h
  | fuel + 1, listed, a, w, h => ⟨h.1, fun i hi => wpOpIn_mono (fun a w q => wpAny_wide hno fuel _ a w q) (wpOp_wide hno (h.2 i hi))⟩
theorem wp_region_wide {n id : Nat} {P : Program} {ops : Array Oper} {Q : Exit → Act → World → Prop} {a : Act} {w : World} (S : World → Prop) (hm : P.follows .mixedOrders = true) (hno : ¬ LetsOut Q) (hS : S w.drew)
    (h : S w.drew → wpAnyH P .any ops Q S ops.size (Array.replicate ops.size false) a w.drew) : (Code.region id ops true).wpIn Fence.wide n P Q a w :=
  wpIn_region_any hm (wpAny_wide hno _ _ _ _ (wpAny_of_held _ _ _ _ (h hS)))

theorem make_strsN (n : Nat) (h : n ≤ 70000) (w : World) : (Instr.makeSlice 22 (.int .i64 n) (.int .i64 n)).run Tryz.prog w = .ok (.slice (some ⟨w.heap.size, 0, none⟩) n n) (w.alloc (.cells (Array.replicate n (.string ⟨#[]⟩)) 9)) := by
  obtain ⟨i0, hi, hz0, hz1, hz2⟩ := info_parts i_str
  have hr := run_makeSlice (P := Tryz.prog) w 22 9 i0 _ Tryz.underlying22 hi hz0 .i64 .i64 n n (by omega) (by omega) (by rw [hz1]; omega) (by rw [hz2]; omega) (by omega)
  rw [hr, hz1, Nat.mul_one, made_one _ _ rfl]
  simp
noncomputable def pieErr (l : List FileV) (piece : Int) (new : Bool) (fr cn : Int) (texts : List ByteArray) : Int :=
  if validOf l then (if runErr l piece new fr cn ≠ 0 then runErr l piece new fr cn else if fitsP (jnOf l (runSp l piece new fr cn.toNat)) texts then 0 else 11) else 1
/-- The pieces' texts as far as the spans T have come. -/
def outA (parts : List SpanV) (texts : List ByteArray) (T : List (Int × SpanV)) (fr : Int) (n : Nat) : Array Value := Array.ofFn (n := n) fun i => .string ⟨(pcOf parts texts T (fr + (i.1 : Int))).toArray⟩
theorem outA_at {parts : List SpanV} {texts : List ByteArray} {T : List (Int × SpanV)} {fr : Int} {n k : Nat} (h : k < n) : (outA parts texts T fr n)[k]? = some (.string ⟨(pcOf parts texts T (fr + (k : Int))).toArray⟩) := by
  simp [outA, h]
theorem outA_nil {parts : List SpanV} {texts : List ByteArray} {fr : Int} {n : Nat} : outA parts texts [] fr n = Array.replicate n (.string ⟨#[]⟩) := by
  apply Array.ext
  · simp [outA]
  · intro i h1 h2
    simp [outA, pcOf]
theorem outA_set {parts : List SpanV} {texts : List ByteArray} {T : List (Int × SpanV)} {fr : Int} {n k : Nat} {s : SpanV} (h : k < n) :
    (outA parts texts T fr n).setIfInBounds k (.string ⟨(pcOf parts texts T (fr + (k : Int)) ++ txOf parts texts s).toArray⟩) = outA parts texts (T ++ [(fr + (k : Int), s)]) fr n := by
  apply Array.ext
  · simp [outA]
  · intro i h1 h2
    have hi : i < n := by simpa [outA] using h2
    rw [Array.getElem_setIfInBounds]
    · by_cases e : k = i
      · subst e
        rw [if_pos rfl]
        simp only [outA, Array.getElem_ofFn, pc_app, pc_one, if_pos]
      · rw [if_neg e]
        simp only [outA, Array.getElem_ofFn, pc_app, pc_one]
        rw [if_neg (by omega), List.append_nil]
    · simpa [outA] using hi
/-- What lies about the loop of Pieces: G the list that is made, W5 the world at the loop's start. -/
structure PEnv (W5 : World) (G : Nat) (parts : List SpanV) (texts : List ByteArray) (fr : Int) (n : Nat) (lo : Obj) (T : List (Int × SpanV)) (W : World) : Prop where
  hL : W.heap[G + 7]? = some lo
  ow : Blk W G (outA parts texts T fr n) 9
  md : Mod (fun k => k = G ∨ k = G + 7) W5 W
theorem PEnv.step {W5 : World} {G : Nat} {parts : List SpanV} {texts : List ByteArray} {fr : Int} {n : Nat} {lo : Obj} {T : List (Int × SpanV)} {W W' : World} (h : PEnv W5 G parts texts fr n lo T W) (hm : New W W') : PEnv W5 G parts texts fr n lo T W' :=
  ⟨(hm.block _ (Array.getElem?_eq_some_iff.1 h.hL).1 (fun q => q)).trans h.hL, New.blk hm h.ow, h.md.trans hm.mod⟩
theorem PEnv.put {W5 : World} {G : Nat} {parts : List SpanV} {texts : List ByteArray} {fr : Int} {n : Nat} {lo lo' : Obj} {T : List (Int × SpanV)} {W : World} (h : PEnv W5 G parts texts fr n lo T W) : PEnv W5 G parts texts fr n lo' T (W.putObj (G + 7) lo') :=
  ⟨World.putObj_heap_same (Array.getElem?_eq_some_iff.1 h.hL).1, Blk.putObj (by omega) h.ow, Mod.putObj h.md _ _ (.inl (.inr rfl))⟩
theorem PEnv.wr {W5 : World} {G : Nat} {parts : List SpanV} {texts : List ByteArray} {fr : Int} {n : Nat} {lo : Obj} {T : List (Int × SpanV)} {W : World} (h : PEnv W5 G parts texts fr n lo T W) {k : Nat} (hk : k < n) {s : SpanV} {t : ByteArray} (ht : t = ⟨(pcOf parts texts T (fr + (k : Int)) ++ txOf parts texts s).toArray⟩) :
    PEnv W5 G parts texts fr n lo (T ++ [(fr + (k : Int), s)]) (W.setCell ⟨G, k, none⟩ (.string t)) := by
  refine ⟨?_, ?_, Mod.set h.md _ _ (.inl (.inl rfl))⟩
  · exact (Below.heap_setCell W _ _ (G + 7) (by simp)).trans h.hL
  · rw [ht, ← outA_set hk]
    exact h.ow.set k _
def PFar (G : Nat) (_ : World) (b : Nat) : Prop := b ≠ G ∧ b ≠ G + 7
theorem tx_zero {parts : List SpanV} {texts : List ByteArray} {s : SpanV} (h : fxOf parts s < 0) : txOf parts texts s = zerosL s.cnt.toNat := by
  unfold fxOf at h
  unfold txOf
  split at h
  · omega
  · next e => rw [e]
theorem tx_some {parts : List SpanV} {texts : List ByteArray} (hf : fitsP parts texts) {s : SpanV} (h : 0 ≤ fxOf parts s) : ∃ k p t, fxOf parts s = (k : Nat) ∧ parts[k]? = some p ∧ texts[k]? = some t ∧ (t.size : Int) = p.cnt ∧ p.frm ≤ s.frm ∧ s.frm + s.cnt ≤ p.frm + p.cnt ∧ txOf parts texts s = (t.data.toList.drop (s.frm - p.frm).toNat).take s.cnt.toNat := by
  unfold fxOf at h
  split at h
  · next k e =>
    obtain ⟨p, hp, hi⟩ := find_at e
    have hlt : k < parts.length := (List.getElem?_eq_some_iff.1 hp).1
    have ht : texts[k]? = some (texts[k]'(by rw [hf.1]; exact hlt)) := List.getElem?_eq_getElem _
    obtain ⟨-, i2, i3⟩ := inP_iff.1 hi
    refine ⟨k, p, _, by unfold fxOf; rw [e], hp, ht, hf.2 k p _ hp ht, i2, i3, ?_⟩
    unfold txOf
    rw [e]
    simp only [hp, ht]
  · omega
theorem part_small {l : List FileV} (hv : validOf l = true) {s : SpanV} (h : InK l s) : SmallS s ∧ 1 ≤ s.cnt := by
  obtain ⟨k, f, a1, a2, a3, a4, a5⟩ := h
  obtain ⟨v1, v2, v3, v4⟩ := valid_facts hv
  have v5 := each_len v3
  have := v5 f (List.mem_of_getElem? a2)
  exact ⟨⟨a3, by omega, by omega⟩, a4⟩
theorem ret_pie {v : Value} {E k : Int} (h : E = k) : Ending.returned (.tuple #[v, .int .i64 k]) = .returned (.tuple #[v, .int .i64 E]) := by rw [h]
end Go.Proofs.YtnhgichiedninaaGreatDoor

namespace Go.Proofs.YtnhgichiedninaaGreatDoor
set_option linter.unusedSimpArgs false
set_option linter.unusedVariables false
open Go.RowKit Go.Shelf

theorem fits_upto {parts : List SpanV} {texts : List ByteArray} (hl : texts.length = parts.length) {k : Nat} (hk : parts.length ≤ k) (h : ∀ (j : Nat) p t, j < k → parts[j]? = some p → texts[j]? = some t → (t.size : Int) = p.cnt) : fitsP parts texts :=
  ⟨hl, fun j p t hp ht => h j p t (by have := (List.getElem?_eq_some_iff.1 hp).1; omega) hp ht⟩
theorem fits_step {parts : List SpanV} {texts : List ByteArray} {k : Nat} {p : SpanV} {t : ByteArray} (hp : parts[k]? = some p) (ht : texts[k]? = some t) (he : (t.size : Int) = p.cnt) (h : ∀ (j : Nat) p t, j < k → parts[j]? = some p → texts[j]? = some t → (t.size : Int) = p.cnt) :
    ∀ (j : Nat) p t, j < k + 1 → parts[j]? = some p → texts[j]? = some t → (t.size : Int) = p.cnt := by
  intro j q u hj hq hu
  by_cases e : j = k
  · subst e
    rw [hp] at hq; rw [ht] at hu
    cases hq; cases hu
    exact he
  · exact h j q u (by omega) hq hu
theorem pieErr_valid {l : List FileV} {piece : Int} {new : Bool} {fr cn : Int} {texts : List ByteArray} (h : pieErr l piece new fr cn texts = 0) : validOf l = true ∧ runErr l piece new fr cn = 0 ∧ fitsP (jnOf l (runSp l piece new fr cn.toNat)) texts := by
  unfold pieErr at h
  split at h
  · next hv =>
    split at h
    · next hr => exact absurd h hr
    · next hr =>
      split at h
      · next hf => exact ⟨hv, by simpa using hr, hf⟩
      · cases h
  · cases h
set_option maxRecDepth 100000 in
set_option maxHeartbeats 4000000 in
theorem wPieces_bad (a ta : Option Addr) (c tc : Nat) (l : List FileV) (texts : List ByteArray) (piece : Int) (new : Bool) (fr cn : Int) (w : World) (h : FilesAt w a c l) (ht : Tab w) (hx : StrsAt w ta tc texts) (h0 : -9223372036854775808 ≤ piece ∧ piece ≤ 9223372036854775807) (f0 : -9223372036854775808 ≤ fr ∧ fr ≤ 9223372036854775807) (c0 : -9223372036854775808 ≤ cn ∧ cn ≤ 9223372036854775807) (hbad : pieErr l piece new fr cn texts ≠ 0) :
    Calls Tryz.prog 26 #[.slice a l.length c, .int .i64 piece, .bool new, .agg #[.int .i64 fr, .int .i64 cn], .slice ta texts.length tc] w fun e w' => ∃ v, e = .returned (.tuple #[v, .int .i64 (pieErr l piece new fr cn texts)]) ∧ New w w' := by
  obtain ⟨E, hE⟩ : ∃ E, E = pieErr l piece new fr cn texts := ⟨_, rfl⟩
  rw [← hE]
  have HV := hid (fun W (n : New w W) => valid_any a c l W (h.new n) (ht.new n))
  have HRN := hid (fun W (n : New w W) => run_any a c l piece new fr cn W (h.new n) (ht.new n) h0 f0 c0)
  rw [← hE] at hbad
  unfold pieErr at hE
  cases hv : validOf l with
  | false =>
    rw [hv] at hE HV
    have HE := hid (hE.trans (if_neg (by simp)))
    clear h ht hx hE hbad h0 f0 c0 hv HRN
    go_enter Tryz.func26, Tryz.ntmps26
    go_wp2_with fail
    refine (HV.out _ (((Mod.refl _ _).alloc _).alloc _)).mono ?_
    rintro e w1 ⟨rfl, n1⟩
    have N1 : Hid (New w w1) := hid ((((Mod.refl _ w).alloc (.cells #[.int .i64 fr, .int .i64 cn] 34)).alloc (.cells #[.slice ta texts.length tc] 22) : New w _).trans n1)
    clear n1
    go_wp2
    go_ret2
    exact ⟨_, ret_pie HE.out, N1.out⟩
  | true =>
    rw [hv] at HV
    rw [hv, if_pos rfl] at hE
    have hro := fun (q : runErr l piece new fr cn = 0) => runErr_ok q
    obtain ⟨R, hR⟩ : ∃ R, R = runErr l piece new fr cn := ⟨_, rfl⟩
    rw [← hR] at hE HRN hro
    clear hR
    by_cases hr : R = 0
    · have hrI : (R != 0) = false := by rw [bne_eq_false_iff_eq]; exact hr
      rw [if_neg (fun q => q hr)] at hE
      obtain ⟨r0, r1, r2, r3⟩ := hro hr
      subst hr
      obtain ⟨n, rfl⟩ := Int.eq_ofNat_of_zero_le (show 0 ≤ cn by omega)
      rw [Int.toNat_natCast] at hE
      obtain ⟨hpf, hpl⟩ := parts_facts r0 r1 r3
      have HJN := hid (fun W (q : New w W) => joined_any a c l piece new fr n W (h.new q) (ht.new q) r0 r1 r3)
      obtain ⟨S, hS⟩ : ∃ S, S = jnOf l (runSp l piece new fr n) := ⟨_, rfl⟩
      rw [← hS] at hE hpf hpl HJN
      have hnf : ¬ fitsP S texts := fun q => hbad (hE.trans (if_pos q))
      have HE := hid (hE.trans (if_neg hnf))
      have HNF := hid hnf
      have hxr := hx.room; have hxc := hx.cap
      unfold maxLen at hxc
      have HX := hid hx
      clear h ht hx hE hS hpf hnf hro h0 f0 c0 r0 r1 r2 r3 hv hbad
      go_enter Tryz.func26, Tryz.ntmps26
      go_wp2_with fail
      refine (HV.out _ (((Mod.refl _ _).alloc _).alloc _)).mono ?_
      rintro e w1 ⟨rfl, n1⟩
      have N1 : Hid (New w w1) := hid ((((Mod.refl _ w).alloc (.cells #[.int .i64 fr, .int .i64 n] 34)).alloc (.cells #[.slice ta texts.length tc] 22) : New w _).trans n1)
      have B1 : Hid (Blk w1 w.heap.size #[.int .i64 fr, .int .i64 n] 34) := hid (New.blk n1 ((Blk.new _ _ _).alloc _))
      have C1 : Hid (Blk w1 (w.heap.size + 1) #[.slice ta texts.length tc] 22) := hid (New.blk n1 (Blk.newAt (by simp)))
      clear n1
      have d0 := B1.out.cellv 0 rfl; have d1 := B1.out.cellv 1 rfl; have dl := B1.out.lt
      go_wp2_with fail
      refine (HRN.out _ N1.out).mono ?_
      rintro e w2 ⟨rfl, n2⟩
      have N2 := hid (N1.out.trans n2)
      have B2 := hid (New.blk n2 B1.out)
      have C2 := hid (New.blk n2 C1.out)
      clear n2 d0 d1 dl N1 B1 C1
      have d0 := B2.out.cellv 0 rfl; have d1 := B2.out.cellv 1 rfl; have dl := B2.out.lt
      go_wp2_with fail
      refine (HJN.out _ N2.out).mono ?_
      rintro e w3 ⟨v, rfl, o3, n3⟩
      have N3 := hid (N2.out.trans n3)
      have C3 := hid (New.blk n3 C2.out)
      obtain ⟨sa, sc, rfl, hsa⟩ := OwnS.spans o3
      have HS3 := hid hsa
      have hsr := hsa.room; have hsc := hsa.cap
      unfold maxLen at hsc
      clear o3 n3 d0 d1 dl B2 C2 N2 hsa
      have e0 := C3.out.cellv 0 rfl; have el := C3.out.lt
      by_cases hlen : S.length = texts.length
      · have hlI : ((S.length : Int) != (texts.length : Int)) = false := by rw [bne_eq_false_iff_eq]; omega
        have HLEN := hid hlen
        clear hlen
        go_wp2
        have K4 : Hid (New w (w3.alloc (.cells #[.slice sa S.length sc] 65)) ∧ Blk (w3.alloc (.cells #[.slice sa S.length sc] 65)) (w.heap.size + 1) #[.slice ta texts.length tc] 22 ∧ SpansAt (w3.alloc (.cells #[.slice sa S.length sc] 65)) sa sc S) := hid ⟨N3.out.alloc _, C3.out.alloc _, HS3.out.new ((Mod.refl _ _).alloc _)⟩
        clear e0 el
        go_loopw [44] (fun x wr => ∃ k : Nat, x = .int .i64 k ∧ k ≤ S.length ∧ (∀ (j : Nat) p t, j < k → S[j]? = some p → texts[j]? = some t → (t.size : Int) = p.cnt) ∧ New (w3.alloc (.cells #[.slice sa S.length sc] 65)) wr) (fun x _ => S.length - (intOf x).toNat)
        case atStart => exact ⟨0, rfl, by omega, by omega, Mod.refl _ _⟩
        case round =>
          obtain ⟨k, rfl, hk, hfit, hn⟩ := hrel
          have HN := hid hn; have HFT := hid hfit
          clear hfit
          obtain ⟨k1, k2, k3⟩ := K4.out
          have e0 := (New.blk hn k2).cellv 0 rfl
          have el := (New.blk hn k2).lt
          by_cases hlt : k < S.length
          · obtain ⟨b1, o1, rfl, hb1, hc1⟩ := (k3.new hn).get (by omega)
            obtain ⟨g0, g1, g2⟩ := hc1 k hlt
            have hkt : k < texts.length := by have := HLEN.out; omega
            obtain ⟨b2, o2, rfl, hb2, hc2⟩ := (HX.out.new (k1.trans hn)).get (by omega)
            have e1 := hc2 k hkt
            have hts := HX.out.small _ (List.getElem_mem hkt)
            unfold maxLen at hts
            have HP := hid (List.getElem?_eq_getElem hlt); have HT := hid (List.getElem?_eq_getElem hkt)
            obtain ⟨p, hp⟩ : ∃ p, p = S[k] := ⟨_, rfl⟩
            obtain ⟨t, htt⟩ : ∃ t, t = texts[k]'hkt := ⟨_, rfl⟩
            rw [← hp] at g0 g1 g2 HP
            rw [← htt] at e1 hts HT
            clear hp htt hc1 hc2 k1 k2 k3 hn
            by_cases he : (t.size : Int) = p.cnt
            · have heI : ((t.size : Int) != p.cnt) = false := by rw [bne_eq_false_iff_eq]; exact he
              have HE2 := hid he
              clear he
              go_wp2
              go_quiet (fail)
              go_wp2
              exact ⟨⟨k + 1, by simp, by omega, fits_step HP.out HT.out HE2.out HFT.out, Mod.drewN (HN.out.alloc _) _⟩, by simp [intOf]; omega⟩
            · have heI : ((t.size : Int) != p.cnt) = true := by rw [bne_iff_ne]; exact he
              clear he
              go_wp2
              go_quiet (fail)
              go_wp2
              go_ret2
              exact ⟨_, ret_pie HE.out, K4.out.1.trans (Mod.drewN (HN.out.alloc _) _)⟩
          · exact absurd (fits_upto HLEN.out.symm (show S.length ≤ k by omega) HFT.out) HNF.out
      · have hlI : ((S.length : Int) != (texts.length : Int)) = true := by rw [bne_iff_ne]; omega
        go_wp2
        go_ret2
        exact ⟨_, ret_pie HE.out, N3.out.alloc _⟩
    · have hrI : (R != 0) = true := by rw [bne_iff_ne]; exact hr
      rw [if_pos hr] at hE
      have HE := hid hE
      clear h ht hx hE hbad h0 f0 c0 hv hr hro
      go_enter Tryz.func26, Tryz.ntmps26
      go_wp2_with fail
      refine (HV.out _ (((Mod.refl _ _).alloc _).alloc _)).mono ?_
      rintro e w1 ⟨rfl, n1⟩
      have N1 : Hid (New w w1) := hid ((((Mod.refl _ w).alloc (.cells #[.int .i64 fr, .int .i64 cn] 34)).alloc (.cells #[.slice ta texts.length tc] 22) : New w _).trans n1)
      have B1 : Hid (Blk w1 w.heap.size #[.int .i64 fr, .int .i64 cn] 34) := hid (New.blk n1 ((Blk.new _ _ _).alloc _))
      clear n1
      have d0 := B1.out.cellv 0 rfl; have d1 := B1.out.cellv 1 rfl; have dl := B1.out.lt
      go_wp2_with fail
      refine (HRN.out _ N1.out).mono ?_
      rintro e w2 ⟨rfl, n2⟩
      have N2 := hid (N1.out.trans n2)
      clear n2 d0 d1 dl B1
      go_wp2
      go_ret2
      exact ⟨_, ret_pie HE.out, N2.out⟩
end Go.Proofs.YtnhgichiedninaaGreatDoor
