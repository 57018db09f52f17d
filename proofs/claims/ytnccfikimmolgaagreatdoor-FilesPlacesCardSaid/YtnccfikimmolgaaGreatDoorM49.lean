/-
  Several texts in one, in their build order. The walk of Cover, whatever is asked. Conditions: the lists lie as told, the files asked for are few; the library's table is as laid.
-/
import Derived.Test.YtnccfikimmolgaaGreatDoorM46
import Derived.Test.YtnccfikimmolgaaGreatDoorM48
import Derived.Test.YtnccfikimmolgaaGreatDoorM39
namespace Go.Proofs.YtnccfikimmolgaaGreatDoor
set_option linter.unusedSimpArgs false
set_option linter.unusedVariables false
open Go.RowKit Go.Shelf

def coverErr (l : List FileV) (piece : Int) (ks : List Int) : Int := if wayErr l piece = 0 then (if ks.all (fun k => (fileIx l k).isSome) then 0 else 7) else wayErr l piece
def coverL (l : List FileV) (piece : Int) (new : Bool) (ks : List Int) : List Int := if coverErr l piece ks = 0 then holdTo ks (cutOf l piece new) (cutOf l piece new).length else []
theorem owni_ne {w : World} {base : Nat} {v : Value} {xs : List Int} (h : OwnI w base v xs) {b : Nat} {cs : Array Value} {t : TypeId} (hb : Blk w b cs t) (ht : t ≠ 3) : some b ≠ v.ownBlock := by
  rcases h.form with ⟨rfl, rfl⟩ | ⟨g, cap, cur, rfl, -, hg, -⟩
  · simp [Value.ownBlock]
  · simp only [Value.ownBlock, ne_eq, Option.some.injEq]
    intro e
    subst e
    unfold Blk at hb
    rw [hb] at hg
    simp only [Option.some.injEq, Obj.cells.injEq] at hg
    exact ht hg.2.1
theorem OwnI.lt {w : World} {base : Nat} {v : Value} {xs : List Int} (h : OwnI w base v xs) : ∀ k, v.ownBlock = some k → base ≤ k := fun k hk => (World.ownsRow.lt h k hk).1
theorem own_push {w' : World} {base : Nat} {v' : Value} {xs : List Int} {x y : Int} (h : w'.ownsRow base 3 1 v' (xs.length + 1) (xs.map (Value.int .i64) ++ [.int .i64 y])) (e : y = x) : OwnI w' base v' (xs ++ [x]) := by
  subst e
  unfold OwnI
  simpa using h
theorem ret_cov {L M : List Int} {a : Option Addr} {c : Nat} {E : Int} (h1 : L = M) (h2 : E = 0) : Ending.returned (.tuple #[.slice a M.length c, .int .i64 0]) = .returned (.tuple #[.slice a L.length c, .int .i64 E]) := by subst h1 h2; rfl
theorem run_next (F : Nat) (i : Nat) : (List.range' F (i + 1)).map (fun k : Nat => (k : Int)) = (List.range' F i).map (fun k : Nat => (k : Int)) ++ [((F + i : Nat) : Int)] := by
  rw [List.range'_concat]
  simp
theorem runL_at {l : List FileV} {piece : Int} {new : Bool} {k : Nat} {f : FileV} (h : fileIx l k = some f) : runL l piece new k = (List.range' (runF l piece new k f).toNat (runC l piece new k f).toNat).map (fun i : Nat => (i : Int)) := by
  obtain ⟨m, e, hk, hf⟩ := fileIx_some h
  have : m = k := by omega
  subst this
  simp [runL, List.getElem?_eq_getElem hk, hf]
theorem take_flat {ks : List Int} {g : Int → List Int} {j : Nat} (h : j < ks.length) : (ks.take (j + 1)).flatMap g = (ks.take j).flatMap g ++ g ks[j] := by
  rw [List.take_succ_eq_append_getElem h, List.flatMap_append]
  simp
set_option maxRecDepth 100000 in
set_option maxHeartbeats 2000000 in
theorem Cover_bad (a b : Option Addr) (c d : Nat) (l : List FileV) (ks : List Int) (piece : Int) (new : Bool) (w : World) (h : FilesAt w a c l) (ht : Tab w) (h0 : -9223372036854775808 ≤ piece) (h1 : piece ≤ 9223372036854775807) (hb : wayErr l piece ≠ 0) :
    Calls Tryz.prog 11 #[.slice a l.length c, .int .i64 piece, .bool new, .slice b ks.length d] w fun e w' => e = .returned (.tuple #[.slice none 0 0, .int .i64 (wayErr l piece)]) ∧ New w w' := by
  have HWY := hid (ways_bad a c l piece new w h ht h0 h1 hb)
  have h3 : ((wayErr l piece) == 0) = false := by simpa using hb
  have h4 : ((wayErr l piece) != 0) = true := by simpa using hb
  clear h ht hb
  go_enter Tryz.func11, Tryz.ntmps11
  go_wp2_with (go_at_call 31; refine HWY.out.mono ?_; rintro e w1 ⟨rfl, h1⟩; have H1 := hid h1; clear h1)
  go_ret2
  exact ⟨rfl, H1.out⟩
set_option maxRecDepth 100000 in
set_option maxHeartbeats 4000000 in
theorem Cover_ok (a b : Option Addr) (c d : Nat) (l : List FileV) (ks : List Int) (piece : Int) (new : Bool) (w : World) (h : FilesAt w a c l) (hk : IntsAt w b d ks) (hk60 : ks.length ≤ 60) (ht : Tab w) (h0 : -9223372036854775808 ≤ piece) (h1 : piece ≤ 9223372036854775807) (hb : wayErr l piece = 0) :
    Calls Tryz.prog 11 #[.slice a l.length c, .int .i64 piece, .bool new, .slice b ks.length d] w fun e w' => (∃ a' c', e = .returned (.tuple #[.slice a' (coverL l piece new ks).length c', .int .i64 (coverErr l piece ks)]) ∧ IntsAt w' a' c' (coverL l piece new ks)) ∧ New w w' := by
  obtain ⟨hv, hpp⟩ := way_ok hb
  obtain ⟨v1, v2, v3, v4⟩ := valid_facts hv
  obtain ⟨p1, p2⟩ := piece_range hpp
  have hpb : piecesOf l piece new ≤ 2800000 := pieces_small v2 v3 v4 p1 p2
  have HWY := hid (ways_ok a c l piece new w h ht h0 h1 hb)
  have HOF := hid (fun x W (n : New w W) => Of_any a c l piece x new W (h.new n) (ht.new n) h0 h1)
  obtain ⟨i0, hi, hz0, hz1, hz2⟩ := info_parts info_int
  have HCE : Hid (coverErr l piece ks = if ks.all (fun k => (fileIx l k).isSome) then 0 else 7) := hid (by simp [coverErr, hb])
  have HRB := hid (fun (k : Nat) (hk : k < l.length) => run_bd (piece := piece) (new := new) (by omega) v3 hk)
  have HCV := hid (fun (q : ∀ k ∈ ks, 0 ≤ k ∧ k < l.length) => cover_eq (piece := piece) (new := new) (by omega) v3 q)
  have hOE : ∀ x, fileIx l x = none → ofErr l piece x = 7 := fun x hx => by simp [ofErr, hb, hx]
  have hOK : ∀ x f, fileIx l x = some f → ofErr l piece x = 0 ∧ ofF l piece new x = runF l piece new x.toNat f ∧ ofC l piece new x = runC l piece new x.toNat f := fun x f hx => by simp [ofErr, ofF, ofC, hb, hx]
  have HOE := hid hOE; have HOK := hid hOK
  have hr := hk.room; have hc := hk.cap
  unfold maxLen at hc
  have HK := hid hk
  obtain ⟨E, hE⟩ : ∃ E, E = coverErr l piece ks := ⟨_, rfl⟩
  obtain ⟨L, hL⟩ : ∃ L, L = coverL l piece new ks := ⟨_, rfl⟩
  rw [← hE, ← hL]
  have HE := hid hE; have HL := hid hL
  clear hE hL
  clear h ht hb hv hpp v1 v2 v3 v4 hOE hOK hk
  go_enter Tryz.func11, Tryz.ntmps11
  go_wp2_with fail
  refine HWY.out.mono ?_
  rintro e w1 ⟨rfl, n1⟩
  have N1 := hid n1
  clear n1
  obtain ⟨wv, hwv⟩ : ∃ wv, wv = wayV a l.length c piece new := ⟨_, rfl⟩
  rw [← hwv]
  clear hwv
  go_wp2
  go_loopw [30, 12] (fun x v wr => ∃ (j : Nat) (v1 : Value), x = .int .i64 j ∧ v1 = v ∧ j ≤ ks.length ∧ OwnI wr w.heap.size v1 ((ks.take j).flatMap (runL l piece new)) ∧ ((ks.take j).flatMap (runL l piece new)).length ≤ 2800000 * j ∧ (∀ k ∈ ks.take j, (fileIx l k).isSome = true) ∧ New w wr) (fun x _ _ => ks.length - (intOf x).toNat)
  case atStart => exact ⟨0, _, rfl, rfl, by omega, by simpa using OwnI.nil _ _, by simp, by simp, N1.out⟩
  case round =>
    obtain ⟨j, v1, rfl, rfl, hj, ho, hlen, hall, hn⟩ := hrel
    have HO := hid ho; have HN := hid hn; have HALL := hid hall
    clear ho hall
    obtain ⟨xs, hxs⟩ : ∃ xs, xs = (ks.take j).flatMap (runL l piece new) := ⟨_, rfl⟩
    rw [← hxs] at HO hlen
    have HXS := hid hxs
    clear hxs
    by_cases hlt : j < ks.length
    · obtain ⟨b1, o1, rfl, hb1, hc1⟩ := HK.out.get (by omega)
      have g0 := hn.cellv (hc1 j hlt)
      have HTF := hid (take_flat (g := runL l piece new) hlt)
      have HTS := hid (List.take_succ_eq_append_getElem hlt)
      have HMM := hid (List.getElem_mem hlt)
      obtain ⟨x, hx⟩ : ∃ x, x = ks[j] := ⟨_, rfl⟩
      rw [← hx] at g0 HTF HTS HMM
      clear hx hc1 hn
      cases hfx : fileIx l x with
      | none =>
        have e7 := HOE.out x hfx
        have HOX := hid (HOF.out x wr HN.out)
        rw [e7] at HOX
        have hce : E = 7 := by rw [HE.out, HCE.out, if_neg (fun q => by have := List.all_eq_true.1 q x HMM.out; rw [hfx] at this; cases this)]
        have hcl : L = [] := by rw [HL.out, coverL, ← HE.out, hce]; rfl
        have HCE7 := hid hce; have HCL := hid hcl
        clear hfx e7 hce hcl
        go_wp2_with fail
        refine HOX.out.mono ?_
        rintro e w2 ⟨rfl, n2⟩
        have N2 := hid (HN.out.trans n2)
        clear n2
        go_wp2
        go_ret2
        exact ⟨⟨none, 0, by rw [HCL.out, HCE7.out]; rfl, by rw [HCL.out]; exact IntsAt.nil _⟩, N2.out.alloc _⟩
      | some f =>
        obtain ⟨e0, e1, e2⟩ := HOK.out x f hfx
        have HOX := hid (HOF.out x wr HN.out)
        rw [e0, e1, e2] at HOX
        obtain ⟨m, hxm, hm, hfm⟩ := fileIx_some hfx
        subst hxm
        have hrl := runL_at (piece := piece) (new := new) hfx
        obtain ⟨q1, q2, q3, -⟩ := HRB.out m hm
        rw [hfm] at q1 q2 q3
        have HSO := hid (show (fileIx l m).isSome = true by rw [hfx]; rfl)
        rw [Int.toNat_natCast] at HOX
        obtain ⟨Fn, hF⟩ := Int.eq_ofNat_of_zero_le q1
        obtain ⟨Cn, hC⟩ := Int.eq_ofNat_of_zero_le q2
        rw [hF, hC] at HOX hrl q3
        rw [Int.toNat_natCast, Int.toNat_natCast] at hrl
        rw [hrl] at HTF
        have hCn : Fn + Cn ≤ 2800000 := by omega
        clear hfx e0 e1 e2 hfm hrl hF hC q1 q2 q3
        go_wp2_with fail
        refine HOX.out.mono ?_
        rintro e w2 ⟨rfl, n2⟩
        have N2 := hid (HN.out.trans n2)
        have O2 := hid (HO.out.new n2)
        clear n2
        go_wp2
        obtain ⟨wo, rfl⟩ : ∃ wo : World, wo = w2 := ⟨_, rfl⟩
        go_loopw [47, 12] (fun x v wr => ∃ (i : Nat) (v2 : Value), x = .int .i64 i ∧ v2 = v ∧ i ≤ Cn ∧ OwnI wr w.heap.size v2 (xs ++ (List.range' Fn i).map (fun k : Nat => (k : Int))) ∧ Blk wr wo.heap.size #[.int .i64 Fn, .int .i64 Cn] 30 ∧ New w wr) (fun x _ _ => Cn - (intOf x).toNat)
        case atStart => exact ⟨0, _, rfl, rfl, by omega, by simpa using O2.out.new ((Mod.refl _ _).alloc _), Blk.new _ _ _, N2.out.alloc _⟩
        case round =>
          clear HO HN N2 O2
          obtain ⟨i, v2, rfl, rfl, hi2, ho, hblk, hn⟩ := hrel
          have HO := hid ho; have HN := hid hn; have HB := hid hblk
          have d0 := hblk.cellv 0 (v := .int .i64 Fn) rfl; have d1 := hblk.cellv 1 (v := .int .i64 Cn) rfl; have d2 := hblk.lt
          clear ho hblk hn
          obtain ⟨ys, hys⟩ : ∃ ys, ys = xs ++ (List.range' Fn i).map (fun k : Nat => (k : Int)) := ⟨_, rfl⟩
          have hyl : ys.length = xs.length + i := by rw [hys]; simp
          rw [← hys] at HO
          have HYN := hid (show ys ++ [((Fn + i : Nat) : Int)] = xs ++ (List.range' Fn (i + 1)).map (fun k : Nat => (k : Int)) by rw [hys, run_next, List.append_assoc])
          have hyb : ys.length ≤ 400000000 := by omega
          have HYE := hid hys
          clear hys hyl
          by_cases hlt2 : i < Cn
          · go_wp2_with (at_builtin; refine wpList_append_own_at _ rfl _ _ 23 rfl w.heap.size 3 i0 _ 1 8 Tryz.underlying23 hi hz0 hz1 hz2 rfl (by decide) v2 ys.length (ys.map (Value.int .i64)) rfl ?ow ⟨wr.heap.size, 0, none⟩ 1 1 [.int .i64 ((Fn : Int) + (i : Int))] rfl rfl ?hn ?h1 ?h63 ?hby ?hba ?_)
            case ow => exact HO.out.new ((Mod.refl _ _).alloc _)
            case hn =>
              intro j u hj
              rw [add_none]
              match j, hj with
              | 0, hj => simp at hj; subst hj; exact (Blk.new wr #[.int .i64 ((Fn : Int) + (i : Int))] 3).cellv 0 rfl
            case h1 => intro u hu; simp at hu; subst hu; rfl
            case h63 => unfold maxLen; omega
            case hby => omega
            case hba => have := HN.out.size; simp; omega
            intro o3 w3 r3 g3 _ _
            have O3 : Hid (OwnI w3 w.heap.size o3 (xs ++ (List.range' Fn (i + 1)).map (fun k : Nat => (k : Int)))) := hid (by rw [← HYN.out]; exact own_push r3 (by omega))
            have N3 : Hid (New w w3) := hid (New.grown (HN.out.alloc _) g3 (fun j hj => (HO.out.lt j hj)))
            have B3 : Hid (Blk w3 wo.heap.size #[.int .i64 Fn, .int .i64 Cn] 30) := hid ((HB.out.alloc _).of_heap (g3.block _ (by have := HB.out.lt; simp; omega) (owni_ne HO.out HB.out (by decide))))
            clear r3 g3
            go_wp2
            go_roundw
            case rel => exact ⟨i + 1, _, by simp, rfl, by omega, O3.out, B3.out, N3.out⟩
            case measure => simp [intOf]; omega
          · have hic : i = Cn := by omega
            subst hic
            go_wp2
            go_roundw
            case rel =>
              have hfl : (ks.take (j + 1)).flatMap (runL l piece new) = xs ++ (List.range' Fn i).map (fun k : Nat => (k : Int)) := by rw [HTF.out, HXS.out]
              have HO2 : OwnI wr w.heap.size v2 ((ks.take (j + 1)).flatMap (runL l piece new)) := by rw [hfl]; exact HYE.out ▸ HO.out
              refine ⟨j + 1, _, by simp, rfl, by omega, HO2, ?_, ?_, HN.out⟩
              · rw [hfl, List.length_append, List.length_map, List.length_range']
                omega
              · intro k hk
                rw [HTS.out] at hk
                rcases List.mem_append.1 hk with q | q
                · exact HALL.out k q
                · rw [List.mem_singleton.1 q]
                  exact HSO.out
            case measure => simp [intOf]; omega
    · have hjl : ks.take j = ks := List.take_of_length_le (by omega)
      rw [hjl] at HXS HALL
      have hal : ks.all (fun k => (fileIx l k).isSome) = true := List.all_eq_true.2 HALL.out
      have hrg : ∀ k ∈ ks, 0 ≤ k ∧ k < l.length := by
        intro k hk
        have := HALL.out k hk
        rw [Option.isSome_iff_exists] at this
        obtain ⟨f, hf⟩ := this
        obtain ⟨m, e, hm, -⟩ := fileIx_some hf
        omega
      have hce : E = 0 := by rw [HE.out, HCE.out, if_pos hal]
      have hcl : L = Lib.compact (xs.mergeSort fun x y => decide (x ≤ y)) := by rw [HL.out, coverL, ← HE.out, hce, if_pos rfl, HXS.out, HCV.out hrg]
      have HCE0 := hid hce; have HCL := hid hcl
      have HSB := hid (List.length_mergeSort (le := fun x y : Int => decide (x ≤ y)) xs)
      clear hjl hal hrg hce hcl hn
      go_wp2_with fail
      refine (sort_any w.heap.size _ xs _ HO.out (by omega)).mono ?_
      rintro e w2 ⟨rfl, o2, n2⟩
      have O2 := hid o2
      have N2 : Hid (New w w2) := hid (HN.out.trans' n2 (fun i hi x => by omega))
      clear o2 n2
      go_wp2_with fail
      refine (compact_any w.heap.size _ _ _ O2.out (by rw [HSB.out]; omega)).mono ?_
      rintro e w3 ⟨⟨a', c', rfl, i3⟩, n3⟩
      have I3 := hid i3
      have N3 : Hid (New w w3) := hid (N2.out.trans' n3 (fun i hi x => by omega))
      rw [← HCL.out] at I3
      clear i3 n3
      go_wp2
      go_ret2
      exact ⟨⟨a', c', ret_cov HCL.out HCE0.out, I3.out⟩, N3.out⟩
theorem Cover_any (a b : Option Addr) (c d : Nat) (l : List FileV) (ks : List Int) (piece : Int) (new : Bool) (w : World) (h : FilesAt w a c l) (hk : IntsAt w b d ks) (hk60 : ks.length ≤ 60) (ht : Tab w) (h0 : -9223372036854775808 ≤ piece) (h1 : piece ≤ 9223372036854775807) :
    Calls Tryz.prog 11 #[.slice a l.length c, .int .i64 piece, .bool new, .slice b ks.length d] w fun e w' => (∃ a' c', e = .returned (.tuple #[.slice a' (coverL l piece new ks).length c', .int .i64 (coverErr l piece ks)]) ∧ IntsAt w' a' c' (coverL l piece new ks)) ∧ New w w' := by
  by_cases hb : wayErr l piece = 0
  · exact Cover_ok a b c d l ks piece new w h hk hk60 ht h0 h1 hb
  · have e : coverErr l piece ks = wayErr l piece := by simp [coverErr, hb]
    have e2 : coverL l piece new ks = [] := by rw [coverL, e, if_neg hb]
    rw [e2, e]
    refine (Cover_bad a b c d l ks piece new w h ht h0 h1 hb).mono ?_
    rintro _ w' ⟨rfl, n⟩
    exact ⟨⟨none, 0, rfl, IntsAt.nil _⟩, n⟩
end Go.Proofs.YtnccfikimmolgaaGreatDoor
