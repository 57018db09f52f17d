/-
  Several texts in one, in their build order. The walk of Parse (package addr). Conditions: the text is small; the library's variables are as laid.
-/
import Derived.Test.YtbgmkplpolgebaaGreatDoorM24
import Derived.Test.YtbgmkplpolgebaaGreatDoorM25
import Derived.Deep.RegionHeld
namespace Go.Proofs.YtbgmkplpolgebaaGreatDoor
set_option linter.unusedSimpArgs false
set_option linter.unusedVariables false
open Go.RowKit Go.Shelf

/-- The place of the last c. -/
theorem last_index (s : ByteArray) : Lib.lastIndexByte s 58 = match lastC 58 s.data.toList with
    | none => -1
    | some x => (x.1.length : Int) := by
  have hlen : s.data.toList.length = s.size := by rw [Array.length_toList]; rfl
  have hat : ∀ (j : Nat) (hj : j < s.size), s.data[j]! = s.data.toList[j]'(by omega) := fun j hj => by
    rw [getElem!_pos s.data j hj]
    rfl
  rcases Lib.lastIndexByte_spec s 58 with ⟨h1, h2⟩ | ⟨i, hi, h1, h2, h3⟩
  · have hn : (58 : UInt8) ∉ s.data.toList := by
      intro q
      obtain ⟨j, hj, hjj⟩ := List.mem_iff_getElem.1 q
      have := h2 j (by omega)
      rw [hat j (by omega), hjj] at this
      exact this rfl
    rw [lastC_none hn, h1]
  · rw [hat i hi] at h2
    have h58 : s.data.toList[i]'(by omega) = 58 := UInt8.toNat_inj.1 (by show _ = 58; omega)
    have hall := take_all (l := s.data.toList) (k := i) (by omega)
    rw [h58] at hall
    have hn : (58 : UInt8) ∉ s.data.toList.drop (i + 1) := by
      intro q
      obtain ⟨j, hj, hjj⟩ := List.mem_iff_getElem.1 q
      rw [List.length_drop] at hj
      rw [List.getElem_drop] at hjj
      have := h3 (i + 1 + j) (by omega) (by omega)
      rw [hat (i + 1 + j) (by omega), hjj] at this
      exact this rfl
    rw [hall, lastC_app hn, h1]
    simp only
    rw [List.length_take]
    omega
def adrE : Option AdrV → Ending
  | some x => .returned (.tuple #[.agg #[.int .i64 x.fam, .string x.ip, .int .i64 x.port], .int .i64 0])
  | none => .returned (.tuple #[.agg #[.int .i64 0, .string ⟨#[]⟩, .int .i64 0], .int .i64 2])
theorem aP_none1 {s : List UInt8} (h : lastC 58 s = none) : aP s = none := by unfold aP; rw [h]
theorem aP_none2 {s t : List UInt8} (h : lastC 58 s = some ([], t)) : aP s = none := by unfold aP; rw [h]; rfl
theorem aP_none3 {s h t : List UInt8} (e : lastC 58 s = some (h, t)) (h0 : h ≠ []) (hi : ipP s h = none) : aP s = none := by unfold aP; rw [e]; simp only; rw [if_neg h0, hi]
theorem aP_none4 {s h t : List UInt8} {y : Int × List UInt8} (e : lastC 58 s = some (h, t)) (h0 : h ≠ []) (hi : ipP s h = some y) (hn : numA 10 65535 t = none) : aP s = none := by unfold aP; rw [e]; simp only; rw [if_neg h0, hi]; simp only; rw [hn]
theorem aP_none5 {s h t : List UInt8} {y : Int × List UInt8} (e : lastC 58 s = some (h, t)) (h0 : h ≠ []) (hi : ipP s h = some y) (hn : numA 10 65535 t = some 0) : aP s = none := by unfold aP; rw [e]; simp only; rw [if_neg h0, hi]; simp only; rw [hn]; rfl
theorem aP_some {s h t : List UInt8} {y : Int × List UInt8} {p : Nat} (e : lastC 58 s = some (h, t)) (h0 : h ≠ []) (hi : ipP s h = some y) (hn : numA 10 65535 t = some p) (hp : p ≠ 0) : aP s = some ⟨y.1, mkB y.2, p⟩ := by unfold aP; rw [e]; simp only; rw [if_neg h0, hi]; simp only; rw [hn]; simp only; rw [if_neg hp]
theorem mth_4 (v : Value) (w : World) : (method 360 164 v "covey/addr.read").run Tryz.prog w = .ok (236, v) w := by kernel_rfl
theorem mth_6 (v : Value) (w : World) : (method 360 165 v "covey/addr.read").run Tryz.prog w = .ok (241, v) w := by kernel_rfl
/-- What is asked behind a region that may stop: at a stop just what the function's end wants to know. -/
def PQ (Z : Prop) (Q : Exit → Act → World → Prop) (w0 : World) (x y : Value) (ds : List Deferred) : Exit → Act → World → Prop
  | .panic c, a, w => Z ∧ c = toldA 2 ∧ New w0 w ∧ a.tmps.getD 2 undef = x ∧ a.tmps.getD 3 undef = y ∧ a.defers = ds
  | e, a, w => Q e a w
theorem PQ.put {Z : Prop} {Q : Exit → Act → World → Prop} {w0 : World} {x y : Value} {ds : List Deferred} (d : Nat) (h2 : d ≠ 2) (h3 : d ≠ 3) (v : Value) : ∀ c a w, PQ Z Q w0 x y ds (.panic c) (a.put (some d) v) w → PQ Z Q w0 x y ds (.panic c) a w := by
  rintro c a w ⟨qz, q1, q2, q3, q4, q5⟩
  refine ⟨qz, q1, q2, ?_, ?_, q5⟩
  · rw [← q3]
    show a.tmps.getD 2 undef = (a.tmps.setIfInBounds d v).getD 2 undef
    simp [Array.getD_eq_getD_getElem?, Array.getElem?_setIfInBounds, h2]
  · rw [← q4]
    show a.tmps.getD 3 undef = (a.tmps.setIfInBounds d v).getD 3 undef
    simp [Array.getD_eq_getD_getElem?, Array.getElem?_setIfInBounds, h3]
theorem wp_pq {P : Program} {c : Code} {Q : Exit → Act → World → Prop} {a : Act} {w : World} (Z : Prop) (w0 : World) (h : c.wp P (PQ Z Q w0 (a.tmps.getD 2 undef) (a.tmps.getD 3 undef) a.defers) a w)
    (hp : Z → ∀ a' w', New w0 w' → a'.tmps.getD 2 undef = a.tmps.getD 2 undef → a'.tmps.getD 3 undef = a.tmps.getD 3 undef → a'.defers = a.defers → Q (.panic (toldA 2)) a' w') : c.wp P Q a w := by
  refine wp_mono h ?_
  intro e a' w' hq
  cases e with
  | panic k =>
    obtain ⟨qz, rfl, q1, q2, q3, q4⟩ := hq
    exact hp qz _ _ q1 q2 q3 q4
  | _ => exact hq
theorem name_worldA {p : World → Prop} {w : World} (h : ∀ W, W = w → p W) : p w := h w rfl
set_option maxRecDepth 100000 in
set_option maxHeartbeats 8000000 in
theorem aparse_any (s : ByteArray) (w : World) (hs : s.size ≤ 65536) (hv : VarP w) : Calls Tryz.prog 79 #[.string s] w fun e w' => e = adrE (aP s.data.toList) ∧ New w w' := by
  have hI : ¬ (65536 : Int) < (s.size : Int) := by omega
  have hlen : s.data.toList.length = s.size := by rw [Array.length_toList]; rfl
  have BA := hid ((Blk.new w #[.int .i64 0, .string ⟨#[]⟩, .int .i64 0] 64).alloc (.cells #[.int .i64 0] 28))
  have BE := hid ((Blk.newAt (w := w.alloc (.cells #[.int .i64 0, .string ⟨#[]⟩, .int .i64 0] 64)) (b := w.heap.size + 1) (cs := #[.int .i64 0]) (t := 28) (by simp)))
  have HN0 := hid (((Mod.refl _ w).alloc (.cells #[.int .i64 0, .string ⟨#[]⟩, .int .i64 0] 64)).alloc (.cells #[.int .i64 0] 28) : New w _)
  have HLI := hid (fun W => Tryz.strings_LastIndexByte s 58 (by omega) W)
  rw [last_index s] at HLI
  obtain ⟨X, hX⟩ : ∃ X, X = aP s.data.toList := ⟨_, rfl⟩
  rw [← hX]
  cases hl : lastC 58 s.data.toList with
  | none =>
    rw [hl] at HLI
    have HX : Hid (X = none) := hid (hX.trans (aP_none1 hl))
    clear hX hl hv
    go_enter_defers Tryz.func79, Tryz.ntmps79
    go_wp2_with (first | (go_at_call 129; refine (HLI.out _).mono ?_; rintro e w1 ⟨rfl, rfl⟩) | (go_at_call 130; refine (aneed_no 2 _).mono ?_; rintro e w3 ⟨rfl, rfl⟩) | fail)
    refine leaves_cons (f := 128) (args := #[.pointer (some ⟨w.heap.size + 1, 0, none⟩)]) (by simp) (by simp [go_sem]) ?_
    refine (acaught_told (w.heap.size + 1) 2 _ BE.out).mono ?_
    rintro e u' w6 ⟨rfl, rfl, bq, m6⟩
    have A6 := m6.blk BA.out (by omega)
    have c0 := A6.cellv 0 rfl
    have c1 := A6.cellv 1 rfl
    have c2 := A6.cellv 2 rfl
    have c3 := bq.cellv 0 rfl
    refine ⟨.tuple #[.agg #[.int .i64 0, .string ⟨#[]⟩, .int .i64 0], .int .i64 2], by simp [results, Tryz.results79, go_sem, c0, c1, c2, c3], by rw [HX.out]; rfl, ?_⟩
    exact HN0.out.trans' m6 (fun j h1 h2 => by omega)
  | some z =>
    obtain ⟨h, t⟩ := z
    rw [hl] at HLI
    simp only at HLI
    by_cases h0 : h = []
    · subst h0
      have HX : Hid (X = none) := hid (hX.trans (aP_none2 hl))
      clear hX hl hv
      go_enter_defers Tryz.func79, Tryz.ntmps79
      go_wp2_with (first | (go_at_call 129; refine (HLI.out _).mono ?_; rintro e w1 ⟨rfl, rfl⟩) | (go_at_call 130; refine (aneed_no 2 _).mono ?_; rintro e w3 ⟨rfl, rfl⟩) | fail)
      refine leaves_cons (f := 128) (args := #[.pointer (some ⟨w.heap.size + 1, 0, none⟩)]) (by simp) (by simp [go_sem]) ?_
      refine (acaught_told (w.heap.size + 1) 2 _ BE.out).mono ?_
      rintro e u' w6 ⟨rfl, rfl, bq, m6⟩
      have A6 := m6.blk BA.out (by omega)
      have c0 := A6.cellv 0 rfl
      have c1 := A6.cellv 1 rfl
      have c2 := A6.cellv 2 rfl
      have c3 := bq.cellv 0 rfl
      refine ⟨.tuple #[.agg #[.int .i64 0, .string ⟨#[]⟩, .int .i64 0], .int .i64 2], by simp [results, Tryz.results79, go_sem, c0, c1, c2, c3], by rw [HX.out]; rfl, ?_⟩
      exact HN0.out.trans' m6 (fun j h1 h2 => by omega)
    · have hpos : 0 < h.length := List.length_pos_iff.2 h0
      obtain ⟨hst, -⟩ := lastC_some hl
      have hsl : h.length + 1 + t.length = s.size := by rw [← hlen, hst]; simp; omega
      have hposI : (0 : Int) < (h.length : Int) := by omega
      have hdI : decide ((0 : Int) < (h.length : Int)) = true := decide_eq_true hposI
      have e1 : s.extract 0 h.length = mkB h := bytes_ext (by rw [ext_list, hst]; simp [mkB])
      have e2 : s.extract (h.length + 1) s.size = mkB t := bytes_ext (by rw [ext_list, hst, show h ++ 58 :: t = (h ++ [58]) ++ t by simp, List.drop_left' (by simp), List.take_of_length_le (by omega)]; rfl)
      have hi1 : ((h.length : Int) + 1) ≤ (s.size : Int) := by omega
      have hi2 : (h.length : Int) ≤ (s.size : Int) := by omega
      have hp0 : 0 < s.size := by omega
      have hhd := head_at s hp0
      have hms : (mkB h).size = h.length := size_list h
      have hmt : (mkB t).size = t.length := size_list t
      have HNM := hid (fun W (n : New w W) => number_any 10 65535 (.inl rfl) (by omega) (mkB t) W (by omega) (hv.new n))
      by_cases h91 : s[0] = 91
      · have c91 : ((s[0].toNat : Int) == 91) = true := by rw [h91]; rfl
        have HRD := hid (fun W (n : New w W) => read6_any (mkB h) W (by omega) (hv.new n))
        have HIP := hid (show ipP s.data.toList h = (read6 h).map (fun ip => ((6 : Int), ip)) by unfold ipP; rw [if_pos (by rw [hhd, h91])])
        have HFM := hid (fun w => families_any 6 w)
        rw [famV6] at HFM
        have hme := mth_6 (.agg #[])
        clear h91 hhd
        cases hr : read6 h with
        | none =>
          rw [show (mkB h).data.toList = h from rfl, hr, ipE] at HRD
          have HXN : Hid (X = none) := hid (hX.trans (aP_none3 hl h0 (by rw [HIP.out, hr]; rfl)))
          clear hX hl hv hr
          go_enter_defers Tryz.func79, Tryz.ntmps79
          go_wp2_with (first | (go_at_call 129; refine (HLI.out _).mono ?_; rintro e w1 ⟨rfl, rfl⟩) | (go_at_call 130; refine (aneed_yes 2 _).mono ?_; rintro e w3 ⟨rfl, rfl⟩) | fail)
          refine name_worldA (p := fun W => Code.wp _ _ _ _ W) (fun W hW => ?_)
          have BA2x : Blk W w.heap.size #[.int .i64 0, .string ⟨#[]⟩, .int .i64 0] 64 := by
            rw [hW]
            apply Blk.row
            · repeat (first | with_reducible exact BA.out | (with_reducible apply Blk.newAt; (simp; done)) | with_reducible apply Blk.alloc | with_reducible apply Blk.drew | with_reducible apply Blk.drewN | with_reducible apply Blk.set | (with_reducible apply Blk.other; · first | (simp; done) | (simp; omega) | omega) | (with_reducible apply Blk.putObj; · first | (simp; done) | (simp; omega) | omega))
            · rfl
          have BA2 := hid BA2x
          have BE2x : Blk W (w.heap.size + 1) #[.int .i64 0] 28 := by
            rw [hW]
            apply Blk.row
            · repeat (first | with_reducible exact BE.out | (with_reducible apply Blk.newAt; (simp; done)) | with_reducible apply Blk.alloc | with_reducible apply Blk.drew | with_reducible apply Blk.drewN | with_reducible apply Blk.set | (with_reducible apply Blk.other; · first | (simp; done) | (simp; omega) | omega) | (with_reducible apply Blk.putObj; · first | (simp; done) | (simp; omega) | omega))
            · rfl
          have BE2 := hid BE2x
          have BX2x : Blk W (w.heap.size + 1 + 1) #[.int .i64 6, .string ⟨#[]⟩, .int .i64 0] 64 := by
            rw [hW]
            apply Blk.row
            · repeat (first | with_reducible exact BE.out | (with_reducible apply Blk.newAt; (simp; done)) | with_reducible apply Blk.alloc | with_reducible apply Blk.drew | with_reducible apply Blk.drewN | with_reducible apply Blk.set | (with_reducible apply Blk.other; · first | (simp; done) | (simp; omega) | omega) | (with_reducible apply Blk.putObj; · first | (simp; done) | (simp; omega) | omega))
            · rfl
          have BX2 := hid BX2x
          have N2x : New w W := by
            rw [hW]
            repeat (first | with_reducible exact HN0.out | with_reducible refine Mod.alloc ?_ _ | with_reducible refine Mod.drew ?_ | with_reducible refine Mod.drewN ?_ _ | (with_reducible refine Mod.set ?_ _ _ (by first | exact .inl rfl | (right; omega) | (right; simp; done) | (right; simp; omega) | (left; omega) | (left; simp; done) | (left; simp; omega))) | (with_reducible refine Mod.putObj ?_ _ _ (by first | exact .inl rfl | (right; omega) | (right; simp; done) | (right; simp; omega) | (left; omega) | (left; simp; done) | (left; simp; omega))))
          have N2 := hid N2x
          clear hW BA2x BE2x BX2x N2x
          have c0 := BX2.out.cellv 0 rfl
          refine wp_pq True W ?_ ?pn
          refine wp_region_held_drew (S := (fun w' => w'.cell? ⟨w.heap.size + 1 + 1, 0, none⟩ = some (.int .i64 6))) (by kernel_rfl) c0 (fun hHeld => ?_)
          refine tk (v := ?_) (hQ := PQ.put 20 (by decide) (by decide) _) 0 ?_ ?_
          rotate_left
          · intro w hSw
            (try dsimp only at hSw)
            first | (go_simp; done) | (go_simp; with_reducible rfl) | with_reducible rfl
          simp only [Act.put, List.setIfInBounds_toArray, List.set_cons_zero, List.set_cons_succ]
          refine tk (v := ?_) (hQ := PQ.put 21 (by decide) (by decide) _) 1 ?_ ?_
          rotate_left
          · intro w hSw
            (try dsimp only at hSw)
            first | (go_simp; done) | (go_simp; with_reducible rfl) | with_reducible rfl
          simp only [Act.put, List.setIfInBounds_toArray, List.set_cons_zero, List.set_cons_succ]
          refine tk (v := ?_) (hQ := PQ.put 23 (by decide) (by decide) _) 3 ?_ ?_
          rotate_left
          · intro w hSw
            (try dsimp only at hSw)
            first | (go_simp; done) | (go_simp; with_reducible rfl) | with_reducible rfl
          simp only [Act.put, List.setIfInBounds_toArray, List.set_cons_zero, List.set_cons_succ]
          refine tk (v := ?_) (hQ := PQ.put 24 (by decide) (by decide) _) 4 ?_ ?_
          rotate_left
          · intro w hSw
            (try dsimp only at hSw)
            first | (go_simp; done) | (go_simp; with_reducible rfl) | with_reducible rfl
          simp only [Act.put, List.setIfInBounds_toArray, List.set_cons_zero, List.set_cons_succ]
          refine tk (v := ?_) (hQ := PQ.put 25 (by decide) (by decide) _) 5 ?_ ?_
          rotate_left
          · intro w hSw
            (try dsimp only at hSw)
            first | (go_simp; done) | (go_simp; with_reducible rfl) | with_reducible rfl
          simp only [Act.put, List.setIfInBounds_toArray, List.set_cons_zero, List.set_cons_succ]
          refine wpAnyH_ready (rs := [2]) (by kernel_rfl) (by simp) ?_
          refine AllReadyH.cons rfl (fun K hK => ?_) AllReadyH.nil
          go_simp
          (go_at_call 93; refine (HFM.out _).mono ?_; rintro e w3 ⟨rfl, rfl⟩)
          try dsimp only
          refine hK.out _ _ c0 (fun hHeld2 => ?_)
          clear hK K
          try simp only [Act.put, List.setIfInBounds_toArray, List.set_cons_zero, List.set_cons_succ]
          refine tk (v := ?_) (hQ := PQ.put 26 (by decide) (by decide) _) 6 ?_ ?_
          rotate_left
          · intro w hSw
            (try dsimp only at hSw)
            first | (go_simp; done) | (go_simp; with_reducible rfl) | with_reducible rfl
          simp only [Act.put, List.setIfInBounds_toArray, List.set_cons_zero, List.set_cons_succ]
          refine tk (v := .func (.method "covey/addr.read") #[.iface 165 (.agg #[])] #[]) (hQ := PQ.put 27 (by decide) (by decide) _) 7 ?_ ?_
          · intro w hSw
            kernel_rfl
          simp only [Act.put, List.setIfInBounds_toArray, List.set_cons_zero, List.set_cons_succ]
          refine tk (v := ?_) (hQ := PQ.put 28 (by decide) (by decide) _) 8 ?_ ?_
          rotate_left
          · intro w hSw
            (try dsimp only at hSw)
            first | (go_simp; done) | (go_simp; with_reducible rfl) | with_reducible rfl
          simp only [Act.put, List.setIfInBounds_toArray, List.set_cons_zero, List.set_cons_succ]
          refine wpAnyH_ready (rs := [9]) (by kernel_rfl) (by simp) ?_
          refine AllReadyH.cons rfl (fun K hK => ?_) AllReadyH.nil
          go_simp
          go_at_call 241
          refine (HRD.out _ N2.out.drew).mono ?_
          rintro e w4 ⟨rfl, n4⟩
          case pn =>
            intro _ a' w' n' q2 q3 q4
            have BE' := hid (New.blk n' BE2.out)
            have BA' := hid (New.blk n' BA2.out)
            have MM := hid (N2.out.trans n')
            simp at q2 q3
            refine (show Leaves _ _ a'.tmps _ a'.defers _ w' from ?_)
            rw [q4]
            refine leaves_cons (f := 128) (args := #[.pointer (some ⟨w.heap.size + 1, 0, none⟩)]) (by simp) (by simp [go_sem]) ?_
            refine (acaught_told (w.heap.size + 1) 2 _ BE'.out).mono ?_
            rintro e u' w6 ⟨rfl, rfl, bq, m6⟩
            have A6 := m6.blk BA'.out (by omega)
            have d0 := A6.cellv 0 rfl
            have d1 := A6.cellv 1 rfl
            have d2 := A6.cellv 2 rfl
            have d3 := bq.cellv 0 rfl
            refine ⟨.tuple #[.agg #[.int .i64 0, .string ⟨#[]⟩, .int .i64 0], .int .i64 2], by simp [results, Tryz.results79, go_sem, q2, q3, d0, d1, d2, d3], by rw [HXN.out]; rfl, ?_⟩
            exact MM.out.trans' m6 (fun j h1 h2 => by omega)
          exact ⟨trivial, rfl, ((Mod.refl _ W).drew).trans n4, rfl, rfl, rfl⟩
        | some ip =>
          rw [show (mkB h).data.toList = h from rfl, hr, ipE] at HRD
          have HIPS := hid (show ipP s.data.toList h = some ((6 : Int), ip) by rw [HIP.out, hr]; rfl)
          clear hr HIP
          rw [show (mkB t).data.toList = t from rfl] at HNM
          cases hn : numA 10 65535 t with
          | none =>
            rw [hn, numE] at HNM
            have HXN : Hid (X = none) := hid (hX.trans (aP_none4 hl h0 HIPS.out hn))
            clear hX hl hv hn
            go_enter_defers Tryz.func79, Tryz.ntmps79
            go_wp2_with (first | (go_at_call 129; refine (HLI.out _).mono ?_; rintro e w1 ⟨rfl, rfl⟩) | (go_at_call 130; refine (aneed_yes 2 _).mono ?_; rintro e w3 ⟨rfl, rfl⟩) | fail)
            refine name_worldA (p := fun W => Code.wp _ _ _ _ W) (fun W hW => ?_)
            have BA2x : Blk W w.heap.size #[.int .i64 0, .string ⟨#[]⟩, .int .i64 0] 64 := by
              rw [hW]
              apply Blk.row
              · repeat (first | with_reducible exact BA.out | (with_reducible apply Blk.newAt; (simp; done)) | with_reducible apply Blk.alloc | with_reducible apply Blk.drew | with_reducible apply Blk.drewN | with_reducible apply Blk.set | (with_reducible apply Blk.other; · first | (simp; done) | (simp; omega) | omega) | (with_reducible apply Blk.putObj; · first | (simp; done) | (simp; omega) | omega))
              · rfl
            have BA2 := hid BA2x
            have BE2x : Blk W (w.heap.size + 1) #[.int .i64 0] 28 := by
              rw [hW]
              apply Blk.row
              · repeat (first | with_reducible exact BE.out | (with_reducible apply Blk.newAt; (simp; done)) | with_reducible apply Blk.alloc | with_reducible apply Blk.drew | with_reducible apply Blk.drewN | with_reducible apply Blk.set | (with_reducible apply Blk.other; · first | (simp; done) | (simp; omega) | omega) | (with_reducible apply Blk.putObj; · first | (simp; done) | (simp; omega) | omega))
              · rfl
            have BE2 := hid BE2x
            have BX2x : Blk W (w.heap.size + 1 + 1) #[.int .i64 6, .string ⟨#[]⟩, .int .i64 0] 64 := by
              rw [hW]
              apply Blk.row
              · repeat (first | with_reducible exact BE.out | (with_reducible apply Blk.newAt; (simp; done)) | with_reducible apply Blk.alloc | with_reducible apply Blk.drew | with_reducible apply Blk.drewN | with_reducible apply Blk.set | (with_reducible apply Blk.other; · first | (simp; done) | (simp; omega) | omega) | (with_reducible apply Blk.putObj; · first | (simp; done) | (simp; omega) | omega))
              · rfl
            have BX2 := hid BX2x
            have N2x : New w W := by
              rw [hW]
              repeat (first | with_reducible exact HN0.out | with_reducible refine Mod.alloc ?_ _ | with_reducible refine Mod.drew ?_ | with_reducible refine Mod.drewN ?_ _ | (with_reducible refine Mod.set ?_ _ _ (by first | exact .inl rfl | (right; omega) | (right; simp; done) | (right; simp; omega) | (left; omega) | (left; simp; done) | (left; simp; omega))) | (with_reducible refine Mod.putObj ?_ _ _ (by first | exact .inl rfl | (right; omega) | (right; simp; done) | (right; simp; omega) | (left; omega) | (left; simp; done) | (left; simp; omega))))
            have N2 := hid N2x
            clear hW BA2x BE2x BX2x N2x
            have c0 := BX2.out.cellv 0 rfl
            refine wp_pq False W ?_ ?pn
            refine wp_region_held_drew (S := (fun w' => w'.cell? ⟨w.heap.size + 1 + 1, 0, none⟩ = some (.int .i64 6))) (by kernel_rfl) c0 (fun hHeld => ?_)
            refine tk (v := ?_) (hQ := PQ.put 20 (by decide) (by decide) _) 0 ?_ ?_
            rotate_left
            · intro w hSw
              (try dsimp only at hSw)
              first | (go_simp; done) | (go_simp; with_reducible rfl) | with_reducible rfl
            simp only [Act.put, List.setIfInBounds_toArray, List.set_cons_zero, List.set_cons_succ]
            refine tk (v := ?_) (hQ := PQ.put 21 (by decide) (by decide) _) 1 ?_ ?_
            rotate_left
            · intro w hSw
              (try dsimp only at hSw)
              first | (go_simp; done) | (go_simp; with_reducible rfl) | with_reducible rfl
            simp only [Act.put, List.setIfInBounds_toArray, List.set_cons_zero, List.set_cons_succ]
            refine tk (v := ?_) (hQ := PQ.put 23 (by decide) (by decide) _) 3 ?_ ?_
            rotate_left
            · intro w hSw
              (try dsimp only at hSw)
              first | (go_simp; done) | (go_simp; with_reducible rfl) | with_reducible rfl
            simp only [Act.put, List.setIfInBounds_toArray, List.set_cons_zero, List.set_cons_succ]
            refine tk (v := ?_) (hQ := PQ.put 24 (by decide) (by decide) _) 4 ?_ ?_
            rotate_left
            · intro w hSw
              (try dsimp only at hSw)
              first | (go_simp; done) | (go_simp; with_reducible rfl) | with_reducible rfl
            simp only [Act.put, List.setIfInBounds_toArray, List.set_cons_zero, List.set_cons_succ]
            refine tk (v := ?_) (hQ := PQ.put 25 (by decide) (by decide) _) 5 ?_ ?_
            rotate_left
            · intro w hSw
              (try dsimp only at hSw)
              first | (go_simp; done) | (go_simp; with_reducible rfl) | with_reducible rfl
            simp only [Act.put, List.setIfInBounds_toArray, List.set_cons_zero, List.set_cons_succ]
            refine wpAnyH_ready (rs := [2]) (by kernel_rfl) (by simp) ?_
            refine AllReadyH.cons rfl (fun K hK => ?_) AllReadyH.nil
            go_simp
            (go_at_call 93; refine (HFM.out _).mono ?_; rintro e w3 ⟨rfl, rfl⟩)
            try dsimp only
            refine hK.out _ _ c0 (fun hHeld2 => ?_)
            clear hK K
            try simp only [Act.put, List.setIfInBounds_toArray, List.set_cons_zero, List.set_cons_succ]
            refine tk (v := ?_) (hQ := PQ.put 26 (by decide) (by decide) _) 6 ?_ ?_
            rotate_left
            · intro w hSw
              (try dsimp only at hSw)
              first | (go_simp; done) | (go_simp; with_reducible rfl) | with_reducible rfl
            simp only [Act.put, List.setIfInBounds_toArray, List.set_cons_zero, List.set_cons_succ]
            refine tk (v := .func (.method "covey/addr.read") #[.iface 165 (.agg #[])] #[]) (hQ := PQ.put 27 (by decide) (by decide) _) 7 ?_ ?_
            · intro w hSw
              kernel_rfl
            simp only [Act.put, List.setIfInBounds_toArray, List.set_cons_zero, List.set_cons_succ]
            refine tk (v := ?_) (hQ := PQ.put 28 (by decide) (by decide) _) 8 ?_ ?_
            rotate_left
            · intro w hSw
              (try dsimp only at hSw)
              first | (go_simp; done) | (go_simp; with_reducible rfl) | with_reducible rfl
            simp only [Act.put, List.setIfInBounds_toArray, List.set_cons_zero, List.set_cons_succ]
            refine wpAnyH_ready (rs := [9]) (by kernel_rfl) (by simp) ?_
            refine AllReadyH.cons rfl (fun K hK => ?_) AllReadyH.nil
            go_simp
            go_at_call 241
            refine (HRD.out _ N2.out.drew).mono ?_
            rintro e w4 ⟨rfl, n4⟩
            case pn => intro hz; exact hz.elim
            refine hK.out _ _ (New.cellv (((Mod.refl _ W).drew).trans n4) c0) (fun hHeld9 => ?_)
            clear hK K
            try simp only [Act.put, List.setIfInBounds_toArray, List.set_cons_zero, List.set_cons_succ]
            have N4 := hid (((Mod.refl (fun _ => False) W).drew).trans n4)
            have BX4 := hid (New.blk N4.out BX2.out)
            have BA4 := hid (New.blk N4.out BA2.out)
            have BE4 := hid (New.blk N4.out BE2.out)
            clear n4 c0 BX2 BA2 BE2
            refine tk (v := ?_) (hQ := PQ.put 30 (by decide) (by decide) _) 10 ?_ ?_
            rotate_left
            · intro w hSw
              (try dsimp only at hSw)
              first | (go_simp; done) | (go_simp; with_reducible rfl) | with_reducible rfl
            simp only [Act.put, List.setIfInBounds_toArray, List.set_cons_zero, List.set_cons_succ]
            have x1 := BX4.out.cellv 1 rfl; have xf := BX4.out.frz 1; have xl := BX4.out.lt
            have x0 := BX4.out.cellv 0 rfl
            refine wpAnyH_ready (rs := [11]) (by kernel_rfl) (by simp) ?_
            refine AllReadyH.cons rfl (fun K hK => ?_) AllReadyH.nil
            go_simp
            refine hK.out _ _ ((BX4.out.set 1 (.string (mkB ip))).cellv 0 rfl) (fun hHeld11 => ?_)
            clear hK K
            try simp only [Act.put, List.setIfInBounds_toArray, List.set_cons_zero, List.set_cons_succ]
            refine wpAnyH_done (by kernel_rfl) ?_ _
            obtain ⟨W5, hW5⟩ : ∃ W5, W5 = w4.setCell ⟨w.heap.size + 1 + 1, 1, none⟩ (.string (mkB ip)) := ⟨_, rfl⟩
            rw [← hW5]
            have BX5x : Blk W5 (w.heap.size + 1 + 1) #[.int .i64 6, .string (mkB ip), .int .i64 0] 64 := by
              rw [hW5]
              apply Blk.row
              · repeat (first | with_reducible exact BX4.out | (with_reducible apply Blk.newAt; (simp; done)) | with_reducible apply Blk.alloc | with_reducible apply Blk.drew | with_reducible apply Blk.drewN | with_reducible apply Blk.set | (with_reducible apply Blk.other; · first | (simp; done) | (simp; omega) | omega) | (with_reducible apply Blk.putObj; · first | (simp; done) | (simp; omega) | omega))
              · rfl
            have BX5 := hid BX5x
            have BA5x : Blk W5 w.heap.size #[.int .i64 0, .string ⟨#[]⟩, .int .i64 0] 64 := by
              rw [hW5]
              apply Blk.row
              · repeat (first | with_reducible exact BA4.out | (with_reducible apply Blk.newAt; (simp; done)) | with_reducible apply Blk.alloc | with_reducible apply Blk.drew | with_reducible apply Blk.drewN | with_reducible apply Blk.set | (with_reducible apply Blk.other; · first | (simp; done) | (simp; omega) | omega) | (with_reducible apply Blk.putObj; · first | (simp; done) | (simp; omega) | omega))
              · rfl
            have BA5 := hid BA5x
            have BE5x : Blk W5 (w.heap.size + 1) #[.int .i64 0] 28 := by
              rw [hW5]
              apply Blk.row
              · repeat (first | with_reducible exact BE4.out | (with_reducible apply Blk.newAt; (simp; done)) | with_reducible apply Blk.alloc | with_reducible apply Blk.drew | with_reducible apply Blk.drewN | with_reducible apply Blk.set | (with_reducible apply Blk.other; · first | (simp; done) | (simp; omega) | omega) | (with_reducible apply Blk.putObj; · first | (simp; done) | (simp; omega) | omega))
              · rfl
            have BE5 := hid BE5x
            have N5x : New w W5 := by
              rw [hW5]
              exact Mod.set (N2.out.trans N4.out) _ _ (.inr (by show w.heap.size ≤ w.heap.size + 1 + 1; omega))
            have N5 := hid N5x
            clear hW5 x0 x1 xf xl BX5x BA5x BE5x N5x BX4 BA4 BE4
            simp only [PQ]
            go_wp2_with fail
            refine (HNM.out _ N5.out).mono ?_
            rintro e w6 ⟨rfl, n6⟩
            have BE6 := hid (New.blk n6 BE5.out)
            have BA6 := hid (New.blk n6 BA5.out)
            have N6 := hid (N5.out.trans n6)
            clear n6
            go_wp2
            have HX := HXN
            refine leaves_cons (f := 128) (args := #[.pointer (some ⟨w.heap.size + 1, 0, none⟩)]) (by simp) (by simp [go_sem]) ?_
            refine (acaught_told (w.heap.size + 1) 2 _ BE6.out).mono ?_
            rintro e u' w6 ⟨rfl, rfl, bq, m6⟩
            have A6 := m6.blk BA6.out (by omega)
            have c0 := A6.cellv 0 rfl
            have c1 := A6.cellv 1 rfl
            have c2 := A6.cellv 2 rfl
            have c3 := bq.cellv 0 rfl
            refine ⟨.tuple #[.agg #[.int .i64 0, .string ⟨#[]⟩, .int .i64 0], .int .i64 2], by simp [results, Tryz.results79, go_sem, c0, c1, c2, c3], by rw [HX.out]; rfl, ?_⟩
            exact N6.out.trans' m6 (fun j h1 h2 => by omega)
          | some p =>
            rw [hn, numE] at HNM
            have hp65 := (numA_some hn).1
            by_cases hp : p = 0
            · subst hp
              have HXN : Hid (X = none) := hid (hX.trans (aP_none5 hl h0 HIPS.out hn))
              clear hX hl hv hn
              go_enter_defers Tryz.func79, Tryz.ntmps79
              go_wp2_with (first | (go_at_call 129; refine (HLI.out _).mono ?_; rintro e w1 ⟨rfl, rfl⟩) | (go_at_call 130; refine (aneed_yes 2 _).mono ?_; rintro e w3 ⟨rfl, rfl⟩) | fail)
              refine name_worldA (p := fun W => Code.wp _ _ _ _ W) (fun W hW => ?_)
              have BA2x : Blk W w.heap.size #[.int .i64 0, .string ⟨#[]⟩, .int .i64 0] 64 := by
                rw [hW]
                apply Blk.row
                · repeat (first | with_reducible exact BA.out | (with_reducible apply Blk.newAt; (simp; done)) | with_reducible apply Blk.alloc | with_reducible apply Blk.drew | with_reducible apply Blk.drewN | with_reducible apply Blk.set | (with_reducible apply Blk.other; · first | (simp; done) | (simp; omega) | omega) | (with_reducible apply Blk.putObj; · first | (simp; done) | (simp; omega) | omega))
                · rfl
              have BA2 := hid BA2x
              have BE2x : Blk W (w.heap.size + 1) #[.int .i64 0] 28 := by
                rw [hW]
                apply Blk.row
                · repeat (first | with_reducible exact BE.out | (with_reducible apply Blk.newAt; (simp; done)) | with_reducible apply Blk.alloc | with_reducible apply Blk.drew | with_reducible apply Blk.drewN | with_reducible apply Blk.set | (with_reducible apply Blk.other; · first | (simp; done) | (simp; omega) | omega) | (with_reducible apply Blk.putObj; · first | (simp; done) | (simp; omega) | omega))
                · rfl
              have BE2 := hid BE2x
              have BX2x : Blk W (w.heap.size + 1 + 1) #[.int .i64 6, .string ⟨#[]⟩, .int .i64 0] 64 := by
                rw [hW]
                apply Blk.row
                · repeat (first | with_reducible exact BE.out | (with_reducible apply Blk.newAt; (simp; done)) | with_reducible apply Blk.alloc | with_reducible apply Blk.drew | with_reducible apply Blk.drewN | with_reducible apply Blk.set | (with_reducible apply Blk.other; · first | (simp; done) | (simp; omega) | omega) | (with_reducible apply Blk.putObj; · first | (simp; done) | (simp; omega) | omega))
                · rfl
              have BX2 := hid BX2x
              have N2x : New w W := by
                rw [hW]
                repeat (first | with_reducible exact HN0.out | with_reducible refine Mod.alloc ?_ _ | with_reducible refine Mod.drew ?_ | with_reducible refine Mod.drewN ?_ _ | (with_reducible refine Mod.set ?_ _ _ (by first | exact .inl rfl | (right; omega) | (right; simp; done) | (right; simp; omega) | (left; omega) | (left; simp; done) | (left; simp; omega))) | (with_reducible refine Mod.putObj ?_ _ _ (by first | exact .inl rfl | (right; omega) | (right; simp; done) | (right; simp; omega) | (left; omega) | (left; simp; done) | (left; simp; omega))))
              have N2 := hid N2x
              clear hW BA2x BE2x BX2x N2x
              have c0 := BX2.out.cellv 0 rfl
              refine wp_pq False W ?_ ?pn
              refine wp_region_held_drew (S := (fun w' => w'.cell? ⟨w.heap.size + 1 + 1, 0, none⟩ = some (.int .i64 6))) (by kernel_rfl) c0 (fun hHeld => ?_)
              refine tk (v := ?_) (hQ := PQ.put 20 (by decide) (by decide) _) 0 ?_ ?_
              rotate_left
              · intro w hSw
                (try dsimp only at hSw)
                first | (go_simp; done) | (go_simp; with_reducible rfl) | with_reducible rfl
              simp only [Act.put, List.setIfInBounds_toArray, List.set_cons_zero, List.set_cons_succ]
              refine tk (v := ?_) (hQ := PQ.put 21 (by decide) (by decide) _) 1 ?_ ?_
              rotate_left
              · intro w hSw
                (try dsimp only at hSw)
                first | (go_simp; done) | (go_simp; with_reducible rfl) | with_reducible rfl
              simp only [Act.put, List.setIfInBounds_toArray, List.set_cons_zero, List.set_cons_succ]
              refine tk (v := ?_) (hQ := PQ.put 23 (by decide) (by decide) _) 3 ?_ ?_
              rotate_left
              · intro w hSw
                (try dsimp only at hSw)
                first | (go_simp; done) | (go_simp; with_reducible rfl) | with_reducible rfl
              simp only [Act.put, List.setIfInBounds_toArray, List.set_cons_zero, List.set_cons_succ]
              refine tk (v := ?_) (hQ := PQ.put 24 (by decide) (by decide) _) 4 ?_ ?_
              rotate_left
              · intro w hSw
                (try dsimp only at hSw)
                first | (go_simp; done) | (go_simp; with_reducible rfl) | with_reducible rfl
              simp only [Act.put, List.setIfInBounds_toArray, List.set_cons_zero, List.set_cons_succ]
              refine tk (v := ?_) (hQ := PQ.put 25 (by decide) (by decide) _) 5 ?_ ?_
              rotate_left
              · intro w hSw
                (try dsimp only at hSw)
                first | (go_simp; done) | (go_simp; with_reducible rfl) | with_reducible rfl
              simp only [Act.put, List.setIfInBounds_toArray, List.set_cons_zero, List.set_cons_succ]
              refine wpAnyH_ready (rs := [2]) (by kernel_rfl) (by simp) ?_
              refine AllReadyH.cons rfl (fun K hK => ?_) AllReadyH.nil
              go_simp
              (go_at_call 93; refine (HFM.out _).mono ?_; rintro e w3 ⟨rfl, rfl⟩)
              try dsimp only
              refine hK.out _ _ c0 (fun hHeld2 => ?_)
              clear hK K
              try simp only [Act.put, List.setIfInBounds_toArray, List.set_cons_zero, List.set_cons_succ]
              refine tk (v := ?_) (hQ := PQ.put 26 (by decide) (by decide) _) 6 ?_ ?_
              rotate_left
              · intro w hSw
                (try dsimp only at hSw)
                first | (go_simp; done) | (go_simp; with_reducible rfl) | with_reducible rfl
              simp only [Act.put, List.setIfInBounds_toArray, List.set_cons_zero, List.set_cons_succ]
              refine tk (v := .func (.method "covey/addr.read") #[.iface 165 (.agg #[])] #[]) (hQ := PQ.put 27 (by decide) (by decide) _) 7 ?_ ?_
              · intro w hSw
                kernel_rfl
              simp only [Act.put, List.setIfInBounds_toArray, List.set_cons_zero, List.set_cons_succ]
              refine tk (v := ?_) (hQ := PQ.put 28 (by decide) (by decide) _) 8 ?_ ?_
              rotate_left
              · intro w hSw
                (try dsimp only at hSw)
                first | (go_simp; done) | (go_simp; with_reducible rfl) | with_reducible rfl
              simp only [Act.put, List.setIfInBounds_toArray, List.set_cons_zero, List.set_cons_succ]
              refine wpAnyH_ready (rs := [9]) (by kernel_rfl) (by simp) ?_
              refine AllReadyH.cons rfl (fun K hK => ?_) AllReadyH.nil
              go_simp
              go_at_call 241
              refine (HRD.out _ N2.out.drew).mono ?_
              rintro e w4 ⟨rfl, n4⟩
              case pn => intro hz; exact hz.elim
              refine hK.out _ _ (New.cellv (((Mod.refl _ W).drew).trans n4) c0) (fun hHeld9 => ?_)
              clear hK K
              try simp only [Act.put, List.setIfInBounds_toArray, List.set_cons_zero, List.set_cons_succ]
              have N4 := hid (((Mod.refl (fun _ => False) W).drew).trans n4)
              have BX4 := hid (New.blk N4.out BX2.out)
              have BA4 := hid (New.blk N4.out BA2.out)
              have BE4 := hid (New.blk N4.out BE2.out)
              clear n4 c0 BX2 BA2 BE2
              refine tk (v := ?_) (hQ := PQ.put 30 (by decide) (by decide) _) 10 ?_ ?_
              rotate_left
              · intro w hSw
                (try dsimp only at hSw)
                first | (go_simp; done) | (go_simp; with_reducible rfl) | with_reducible rfl
              simp only [Act.put, List.setIfInBounds_toArray, List.set_cons_zero, List.set_cons_succ]
              have x1 := BX4.out.cellv 1 rfl; have xf := BX4.out.frz 1; have xl := BX4.out.lt
              have x0 := BX4.out.cellv 0 rfl
              refine wpAnyH_ready (rs := [11]) (by kernel_rfl) (by simp) ?_
              refine AllReadyH.cons rfl (fun K hK => ?_) AllReadyH.nil
              go_simp
              refine hK.out _ _ ((BX4.out.set 1 (.string (mkB ip))).cellv 0 rfl) (fun hHeld11 => ?_)
              clear hK K
              try simp only [Act.put, List.setIfInBounds_toArray, List.set_cons_zero, List.set_cons_succ]
              refine wpAnyH_done (by kernel_rfl) ?_ _
              obtain ⟨W5, hW5⟩ : ∃ W5, W5 = w4.setCell ⟨w.heap.size + 1 + 1, 1, none⟩ (.string (mkB ip)) := ⟨_, rfl⟩
              rw [← hW5]
              have BX5x : Blk W5 (w.heap.size + 1 + 1) #[.int .i64 6, .string (mkB ip), .int .i64 0] 64 := by
                rw [hW5]
                apply Blk.row
                · repeat (first | with_reducible exact BX4.out | (with_reducible apply Blk.newAt; (simp; done)) | with_reducible apply Blk.alloc | with_reducible apply Blk.drew | with_reducible apply Blk.drewN | with_reducible apply Blk.set | (with_reducible apply Blk.other; · first | (simp; done) | (simp; omega) | omega) | (with_reducible apply Blk.putObj; · first | (simp; done) | (simp; omega) | omega))
                · rfl
              have BX5 := hid BX5x
              have BA5x : Blk W5 w.heap.size #[.int .i64 0, .string ⟨#[]⟩, .int .i64 0] 64 := by
                rw [hW5]
                apply Blk.row
                · repeat (first | with_reducible exact BA4.out | (with_reducible apply Blk.newAt; (simp; done)) | with_reducible apply Blk.alloc | with_reducible apply Blk.drew | with_reducible apply Blk.drewN | with_reducible apply Blk.set | (with_reducible apply Blk.other; · first | (simp; done) | (simp; omega) | omega) | (with_reducible apply Blk.putObj; · first | (simp; done) | (simp; omega) | omega))
                · rfl
              have BA5 := hid BA5x
              have BE5x : Blk W5 (w.heap.size + 1) #[.int .i64 0] 28 := by
                rw [hW5]
                apply Blk.row
                · repeat (first | with_reducible exact BE4.out | (with_reducible apply Blk.newAt; (simp; done)) | with_reducible apply Blk.alloc | with_reducible apply Blk.drew | with_reducible apply Blk.drewN | with_reducible apply Blk.set | (with_reducible apply Blk.other; · first | (simp; done) | (simp; omega) | omega) | (with_reducible apply Blk.putObj; · first | (simp; done) | (simp; omega) | omega))
                · rfl
              have BE5 := hid BE5x
              have N5x : New w W5 := by
                rw [hW5]
                exact Mod.set (N2.out.trans N4.out) _ _ (.inr (by show w.heap.size ≤ w.heap.size + 1 + 1; omega))
              have N5 := hid N5x
              clear hW5 x0 x1 xf xl BX5x BA5x BE5x N5x BX4 BA4 BE4
              simp only [PQ]
              go_wp2_with fail
              refine (HNM.out _ N5.out).mono ?_
              rintro e w6 ⟨rfl, n6⟩
              have BE6 := hid (New.blk n6 BE5.out)
              have BA6 := hid (New.blk n6 BA5.out)
              have BX6 := hid (New.blk n6 BX5.out)
              have N6 := hid (N5.out.trans n6)
              have x2 := BX6.out.cellv 2 rfl; have xf := BX6.out.frz 2; have xl := BX6.out.lt
              have x20 : (w6.setCell ⟨w.heap.size + 1 + 1, 2, none⟩ (.int .i64 0)).cell? ⟨w.heap.size + 1 + 1, 2, none⟩ = some (.int .i64 0) := (BX6.out.set 2 (.int .i64 0)).cellv 2 rfl
              clear n6
              go_wp2_with fail
              refine (aneed_no 2 _).mono ?_
              rintro e w7 ⟨rfl, rfl⟩
              go_wp2
              have HX := HXN
              refine name_worldA (p := fun W => Leaves _ _ _ _ _ _ W) (fun W7 hW7 => ?_)
              have BA7x : Blk W7 w.heap.size #[.int .i64 0, .string ⟨#[]⟩, .int .i64 0] 64 := by
                rw [hW7]
                apply Blk.row
                · repeat (first | with_reducible exact BA6.out | (with_reducible apply Blk.newAt; (simp; done)) | with_reducible apply Blk.alloc | with_reducible apply Blk.drew | with_reducible apply Blk.drewN | with_reducible apply Blk.set | (with_reducible apply Blk.other; · first | (simp; done) | (simp; omega) | omega) | (with_reducible apply Blk.putObj; · first | (simp; done) | (simp; omega) | omega))
                · rfl
              have BA7 := hid BA7x
              have BE7x : Blk W7 (w.heap.size + 1) #[.int .i64 0] 28 := by
                rw [hW7]
                apply Blk.row
                · repeat (first | with_reducible exact BE6.out | (with_reducible apply Blk.newAt; (simp; done)) | with_reducible apply Blk.alloc | with_reducible apply Blk.drew | with_reducible apply Blk.drewN | with_reducible apply Blk.set | (with_reducible apply Blk.other; · first | (simp; done) | (simp; omega) | omega) | (with_reducible apply Blk.putObj; · first | (simp; done) | (simp; omega) | omega))
                · rfl
              have BE7 := hid BE7x
              have N7x : New w W7 := by
                rw [hW7]
                exact Mod.set N6.out _ _ (.inr (by show w.heap.size ≤ w.heap.size + 1 + 1; omega))
              have N7 := hid N7x
              clear hW7 BA7x BE7x N7x
              refine leaves_cons (f := 128) (args := #[.pointer (some ⟨w.heap.size + 1, 0, none⟩)]) (by simp) (by simp [go_sem]) ?_
              refine (acaught_told (w.heap.size + 1) 2 _ BE7.out).mono ?_
              rintro e u' w6 ⟨rfl, rfl, bq, m6⟩
              have A6 := m6.blk BA7.out (by omega)
              have c0 := A6.cellv 0 rfl
              have c1 := A6.cellv 1 rfl
              have c2 := A6.cellv 2 rfl
              have c3 := bq.cellv 0 rfl
              refine ⟨.tuple #[.agg #[.int .i64 0, .string ⟨#[]⟩, .int .i64 0], .int .i64 2], by simp [results, Tryz.results79, go_sem, c0, c1, c2, c3], by rw [HX.out]; rfl, ?_⟩
              exact N7.out.trans' m6 (fun j h1 h2 => by omega)
            · have HXN : Hid (X = some ⟨6, mkB ip, p⟩) := hid (hX.trans (aP_some hl h0 HIPS.out hn hp))
              have hpI : (0 : Int) < (p : Int) := by omega
              have hpd : decide ((0 : Int) < (p : Int)) = true := decide_eq_true hpI
              have hpd2 : decide (0 < p) = true := decide_eq_true (by omega)
              clear hX hl hv hn
              go_enter_defers Tryz.func79, Tryz.ntmps79
              go_wp2_with (first | (go_at_call 129; refine (HLI.out _).mono ?_; rintro e w1 ⟨rfl, rfl⟩) | (go_at_call 130; refine (aneed_yes 2 _).mono ?_; rintro e w3 ⟨rfl, rfl⟩) | fail)
              refine name_worldA (p := fun W => Code.wp _ _ _ _ W) (fun W hW => ?_)
              have BA2x : Blk W w.heap.size #[.int .i64 0, .string ⟨#[]⟩, .int .i64 0] 64 := by
                rw [hW]
                apply Blk.row
                · repeat (first | with_reducible exact BA.out | (with_reducible apply Blk.newAt; (simp; done)) | with_reducible apply Blk.alloc | with_reducible apply Blk.drew | with_reducible apply Blk.drewN | with_reducible apply Blk.set | (with_reducible apply Blk.other; · first | (simp; done) | (simp; omega) | omega) | (with_reducible apply Blk.putObj; · first | (simp; done) | (simp; omega) | omega))
                · rfl
              have BA2 := hid BA2x
              have BE2x : Blk W (w.heap.size + 1) #[.int .i64 0] 28 := by
                rw [hW]
                apply Blk.row
                · repeat (first | with_reducible exact BE.out | (with_reducible apply Blk.newAt; (simp; done)) | with_reducible apply Blk.alloc | with_reducible apply Blk.drew | with_reducible apply Blk.drewN | with_reducible apply Blk.set | (with_reducible apply Blk.other; · first | (simp; done) | (simp; omega) | omega) | (with_reducible apply Blk.putObj; · first | (simp; done) | (simp; omega) | omega))
                · rfl
              have BE2 := hid BE2x
              have BX2x : Blk W (w.heap.size + 1 + 1) #[.int .i64 6, .string ⟨#[]⟩, .int .i64 0] 64 := by
                rw [hW]
                apply Blk.row
                · repeat (first | with_reducible exact BE.out | (with_reducible apply Blk.newAt; (simp; done)) | with_reducible apply Blk.alloc | with_reducible apply Blk.drew | with_reducible apply Blk.drewN | with_reducible apply Blk.set | (with_reducible apply Blk.other; · first | (simp; done) | (simp; omega) | omega) | (with_reducible apply Blk.putObj; · first | (simp; done) | (simp; omega) | omega))
                · rfl
              have BX2 := hid BX2x
              have N2x : New w W := by
                rw [hW]
                repeat (first | with_reducible exact HN0.out | with_reducible refine Mod.alloc ?_ _ | with_reducible refine Mod.drew ?_ | with_reducible refine Mod.drewN ?_ _ | (with_reducible refine Mod.set ?_ _ _ (by first | exact .inl rfl | (right; omega) | (right; simp; done) | (right; simp; omega) | (left; omega) | (left; simp; done) | (left; simp; omega))) | (with_reducible refine Mod.putObj ?_ _ _ (by first | exact .inl rfl | (right; omega) | (right; simp; done) | (right; simp; omega) | (left; omega) | (left; simp; done) | (left; simp; omega))))
              have N2 := hid N2x
              clear hW BA2x BE2x BX2x N2x
              have c0 := BX2.out.cellv 0 rfl
              refine wp_pq False W ?_ ?pn
              refine wp_region_held_drew (S := (fun w' => w'.cell? ⟨w.heap.size + 1 + 1, 0, none⟩ = some (.int .i64 6))) (by kernel_rfl) c0 (fun hHeld => ?_)
              refine tk (v := ?_) (hQ := PQ.put 20 (by decide) (by decide) _) 0 ?_ ?_
              rotate_left
              · intro w hSw
                (try dsimp only at hSw)
                first | (go_simp; done) | (go_simp; with_reducible rfl) | with_reducible rfl
              simp only [Act.put, List.setIfInBounds_toArray, List.set_cons_zero, List.set_cons_succ]
              refine tk (v := ?_) (hQ := PQ.put 21 (by decide) (by decide) _) 1 ?_ ?_
              rotate_left
              · intro w hSw
                (try dsimp only at hSw)
                first | (go_simp; done) | (go_simp; with_reducible rfl) | with_reducible rfl
              simp only [Act.put, List.setIfInBounds_toArray, List.set_cons_zero, List.set_cons_succ]
              refine tk (v := ?_) (hQ := PQ.put 23 (by decide) (by decide) _) 3 ?_ ?_
              rotate_left
              · intro w hSw
                (try dsimp only at hSw)
                first | (go_simp; done) | (go_simp; with_reducible rfl) | with_reducible rfl
              simp only [Act.put, List.setIfInBounds_toArray, List.set_cons_zero, List.set_cons_succ]
              refine tk (v := ?_) (hQ := PQ.put 24 (by decide) (by decide) _) 4 ?_ ?_
              rotate_left
              · intro w hSw
                (try dsimp only at hSw)
                first | (go_simp; done) | (go_simp; with_reducible rfl) | with_reducible rfl
              simp only [Act.put, List.setIfInBounds_toArray, List.set_cons_zero, List.set_cons_succ]
              refine tk (v := ?_) (hQ := PQ.put 25 (by decide) (by decide) _) 5 ?_ ?_
              rotate_left
              · intro w hSw
                (try dsimp only at hSw)
                first | (go_simp; done) | (go_simp; with_reducible rfl) | with_reducible rfl
              simp only [Act.put, List.setIfInBounds_toArray, List.set_cons_zero, List.set_cons_succ]
              refine wpAnyH_ready (rs := [2]) (by kernel_rfl) (by simp) ?_
              refine AllReadyH.cons rfl (fun K hK => ?_) AllReadyH.nil
              go_simp
              (go_at_call 93; refine (HFM.out _).mono ?_; rintro e w3 ⟨rfl, rfl⟩)
              try dsimp only
              refine hK.out _ _ c0 (fun hHeld2 => ?_)
              clear hK K
              try simp only [Act.put, List.setIfInBounds_toArray, List.set_cons_zero, List.set_cons_succ]
              refine tk (v := ?_) (hQ := PQ.put 26 (by decide) (by decide) _) 6 ?_ ?_
              rotate_left
              · intro w hSw
                (try dsimp only at hSw)
                first | (go_simp; done) | (go_simp; with_reducible rfl) | with_reducible rfl
              simp only [Act.put, List.setIfInBounds_toArray, List.set_cons_zero, List.set_cons_succ]
              refine tk (v := .func (.method "covey/addr.read") #[.iface 165 (.agg #[])] #[]) (hQ := PQ.put 27 (by decide) (by decide) _) 7 ?_ ?_
              · intro w hSw
                kernel_rfl
              simp only [Act.put, List.setIfInBounds_toArray, List.set_cons_zero, List.set_cons_succ]
              refine tk (v := ?_) (hQ := PQ.put 28 (by decide) (by decide) _) 8 ?_ ?_
              rotate_left
              · intro w hSw
                (try dsimp only at hSw)
                first | (go_simp; done) | (go_simp; with_reducible rfl) | with_reducible rfl
              simp only [Act.put, List.setIfInBounds_toArray, List.set_cons_zero, List.set_cons_succ]
              refine wpAnyH_ready (rs := [9]) (by kernel_rfl) (by simp) ?_
              refine AllReadyH.cons rfl (fun K hK => ?_) AllReadyH.nil
              go_simp
              go_at_call 241
              refine (HRD.out _ N2.out.drew).mono ?_
              rintro e w4 ⟨rfl, n4⟩
              case pn => intro hz; exact hz.elim
              refine hK.out _ _ (New.cellv (((Mod.refl _ W).drew).trans n4) c0) (fun hHeld9 => ?_)
              clear hK K
              try simp only [Act.put, List.setIfInBounds_toArray, List.set_cons_zero, List.set_cons_succ]
              have N4 := hid (((Mod.refl (fun _ => False) W).drew).trans n4)
              have BX4 := hid (New.blk N4.out BX2.out)
              have BA4 := hid (New.blk N4.out BA2.out)
              have BE4 := hid (New.blk N4.out BE2.out)
              clear n4 c0 BX2 BA2 BE2
              refine tk (v := ?_) (hQ := PQ.put 30 (by decide) (by decide) _) 10 ?_ ?_
              rotate_left
              · intro w hSw
                (try dsimp only at hSw)
                first | (go_simp; done) | (go_simp; with_reducible rfl) | with_reducible rfl
              simp only [Act.put, List.setIfInBounds_toArray, List.set_cons_zero, List.set_cons_succ]
              have x1 := BX4.out.cellv 1 rfl; have xf := BX4.out.frz 1; have xl := BX4.out.lt
              have x0 := BX4.out.cellv 0 rfl
              refine wpAnyH_ready (rs := [11]) (by kernel_rfl) (by simp) ?_
              refine AllReadyH.cons rfl (fun K hK => ?_) AllReadyH.nil
              go_simp
              refine hK.out _ _ ((BX4.out.set 1 (.string (mkB ip))).cellv 0 rfl) (fun hHeld11 => ?_)
              clear hK K
              try simp only [Act.put, List.setIfInBounds_toArray, List.set_cons_zero, List.set_cons_succ]
              refine wpAnyH_done (by kernel_rfl) ?_ _
              obtain ⟨W5, hW5⟩ : ∃ W5, W5 = w4.setCell ⟨w.heap.size + 1 + 1, 1, none⟩ (.string (mkB ip)) := ⟨_, rfl⟩
              rw [← hW5]
              have BX5x : Blk W5 (w.heap.size + 1 + 1) #[.int .i64 6, .string (mkB ip), .int .i64 0] 64 := by
                rw [hW5]
                apply Blk.row
                · repeat (first | with_reducible exact BX4.out | (with_reducible apply Blk.newAt; (simp; done)) | with_reducible apply Blk.alloc | with_reducible apply Blk.drew | with_reducible apply Blk.drewN | with_reducible apply Blk.set | (with_reducible apply Blk.other; · first | (simp; done) | (simp; omega) | omega) | (with_reducible apply Blk.putObj; · first | (simp; done) | (simp; omega) | omega))
                · rfl
              have BX5 := hid BX5x
              have BA5x : Blk W5 w.heap.size #[.int .i64 0, .string ⟨#[]⟩, .int .i64 0] 64 := by
                rw [hW5]
                apply Blk.row
                · repeat (first | with_reducible exact BA4.out | (with_reducible apply Blk.newAt; (simp; done)) | with_reducible apply Blk.alloc | with_reducible apply Blk.drew | with_reducible apply Blk.drewN | with_reducible apply Blk.set | (with_reducible apply Blk.other; · first | (simp; done) | (simp; omega) | omega) | (with_reducible apply Blk.putObj; · first | (simp; done) | (simp; omega) | omega))
                · rfl
              have BA5 := hid BA5x
              have BE5x : Blk W5 (w.heap.size + 1) #[.int .i64 0] 28 := by
                rw [hW5]
                apply Blk.row
                · repeat (first | with_reducible exact BE4.out | (with_reducible apply Blk.newAt; (simp; done)) | with_reducible apply Blk.alloc | with_reducible apply Blk.drew | with_reducible apply Blk.drewN | with_reducible apply Blk.set | (with_reducible apply Blk.other; · first | (simp; done) | (simp; omega) | omega) | (with_reducible apply Blk.putObj; · first | (simp; done) | (simp; omega) | omega))
                · rfl
              have BE5 := hid BE5x
              have N5x : New w W5 := by
                rw [hW5]
                exact Mod.set (N2.out.trans N4.out) _ _ (.inr (by show w.heap.size ≤ w.heap.size + 1 + 1; omega))
              have N5 := hid N5x
              clear hW5 x0 x1 xf xl BX5x BA5x BE5x N5x BX4 BA4 BE4
              simp only [PQ]
              go_wp2_with fail
              refine (HNM.out _ N5.out).mono ?_
              rintro e w6 ⟨rfl, n6⟩
              have BE6 := hid (New.blk n6 BE5.out)
              have BA6 := hid (New.blk n6 BA5.out)
              have BX6 := hid (New.blk n6 BX5.out)
              have N6 := hid (N5.out.trans n6)
              have x2 := BX6.out.cellv 2 rfl; have xf := BX6.out.frz 2; have xl := BX6.out.lt
              have x20 : (w6.setCell ⟨w.heap.size + 1 + 1, 2, none⟩ (.int .i64 (p : Int))).cell? ⟨w.heap.size + 1 + 1, 2, none⟩ = some (.int .i64 (p : Int)) := (BX6.out.set 2 (.int .i64 (p : Int))).cellv 2 rfl
              clear n6
              go_wp2_with fail
              refine (aneed_yes 2 _).mono ?_
              rintro e w7 ⟨rfl, rfl⟩
              have y0 : (w6.setCell ⟨w.heap.size + 1 + 1, 2, none⟩ (.int .i64 p)).cell? ⟨w.heap.size + 1 + 1, 0, none⟩ = some (.int .i64 6) := (BX6.out.set 2 (.int .i64 p)).cellv 0 rfl
              have y1 : (w6.setCell ⟨w.heap.size + 1 + 1, 2, none⟩ (.int .i64 p)).cell? ⟨w.heap.size + 1 + 1, 1, none⟩ = some (.string (mkB ip)) := (BX6.out.set 2 (.int .i64 p)).cellv 1 rfl
              have BA7x : Blk (w6.setCell ⟨w.heap.size + 1 + 1, 2, none⟩ (.int .i64 p)) w.heap.size #[.int .i64 0, .string ⟨#[]⟩, .int .i64 0] 64 := by
                apply Blk.row
                · repeat (first | with_reducible exact BA6.out | (with_reducible apply Blk.newAt; (simp; done)) | with_reducible apply Blk.alloc | with_reducible apply Blk.drew | with_reducible apply Blk.drewN | with_reducible apply Blk.set | (with_reducible apply Blk.other; · first | (simp; done) | (simp; omega) | omega) | (with_reducible apply Blk.putObj; · first | (simp; done) | (simp; omega) | omega))
                · rfl
              have BE7x : Blk (w6.setCell ⟨w.heap.size + 1 + 1, 2, none⟩ (.int .i64 p)) (w.heap.size + 1) #[.int .i64 0] 28 := by
                apply Blk.row
                · repeat (first | with_reducible exact BE6.out | (with_reducible apply Blk.newAt; (simp; done)) | with_reducible apply Blk.alloc | with_reducible apply Blk.drew | with_reducible apply Blk.drewN | with_reducible apply Blk.set | (with_reducible apply Blk.other; · first | (simp; done) | (simp; omega) | omega) | (with_reducible apply Blk.putObj; · first | (simp; done) | (simp; omega) | omega))
                · rfl
              have BA7 := hid BA7x
              have BE7 := hid BE7x
              have N7 : Hid (New w (w6.setCell ⟨w.heap.size + 1 + 1, 2, none⟩ (.int .i64 p))) := hid (Mod.set N6.out _ _ (.inr (by show w.heap.size ≤ w.heap.size + 1 + 1; omega)))
              obtain ⟨W7, hW7⟩ : ∃ W7, W7 = w6.setCell ⟨w.heap.size + 1 + 1, 2, none⟩ (.int .i64 p) := ⟨_, rfl⟩
              rw [← hW7] at y0 y1 x20 BA7 BE7 N7 ⊢
              clear hW7 BA7x BE7x x2 xf
              have a0 := BA7.out.cellv 0 rfl; have a1 := BA7.out.cellv 1 rfl; have a2 := BA7.out.cellv 2 rfl; have al := BA7.out.lt; have af := BA7.out.frz
              have q0 := BE7.out.cellv 0 rfl; have ql := BE7.out.lt; have qf := BE7.out.frz
              go_wp2
              have A8 : Blk ((((W7.setCell ⟨w.heap.size, 0, none⟩ (.int .i64 6)).setCell ⟨w.heap.size, 1, none⟩ (.string (mkB ip))).setCell ⟨w.heap.size, 2, none⟩ (.int .i64 p)).setCell ⟨w.heap.size + 1, 0, none⟩ (.int .i64 0)) w.heap.size #[.int .i64 6, .string (mkB ip), .int .i64 p] 64 := by
                apply Blk.row
                · repeat (first | with_reducible exact BA7.out | (with_reducible apply Blk.newAt; (simp; done)) | with_reducible apply Blk.alloc | with_reducible apply Blk.drew | with_reducible apply Blk.drewN | with_reducible apply Blk.set | (with_reducible apply Blk.other; · first | (simp; done) | (simp; omega) | omega) | (with_reducible apply Blk.putObj; · first | (simp; done) | (simp; omega) | omega))
                · rfl
              have E8 : Blk ((((W7.setCell ⟨w.heap.size, 0, none⟩ (.int .i64 6)).setCell ⟨w.heap.size, 1, none⟩ (.string (mkB ip))).setCell ⟨w.heap.size, 2, none⟩ (.int .i64 p)).setCell ⟨w.heap.size + 1, 0, none⟩ (.int .i64 0)) (w.heap.size + 1) #[.int .i64 0] 28 := by
                apply Blk.row
                · repeat (first | with_reducible exact BE7.out | (with_reducible apply Blk.newAt; (simp; done)) | with_reducible apply Blk.alloc | with_reducible apply Blk.drew | with_reducible apply Blk.drewN | with_reducible apply Blk.set | (with_reducible apply Blk.other; · first | (simp; done) | (simp; omega) | omega) | (with_reducible apply Blk.putObj; · first | (simp; done) | (simp; omega) | omega))
                · rfl
              have N8 : New w ((((W7.setCell ⟨w.heap.size, 0, none⟩ (.int .i64 6)).setCell ⟨w.heap.size, 1, none⟩ (.string (mkB ip))).setCell ⟨w.heap.size, 2, none⟩ (.int .i64 p)).setCell ⟨w.heap.size + 1, 0, none⟩ (.int .i64 0)) := by
                repeat (first | with_reducible exact N7.out | with_reducible refine Mod.alloc ?_ _ | with_reducible refine Mod.drew ?_ | with_reducible refine Mod.drewN ?_ _ | (with_reducible refine Mod.set ?_ _ _ (by first | exact .inl rfl | (right; omega) | (right; simp; done) | (right; simp; omega) | (left; omega) | (left; simp; done) | (left; simp; omega))) | (with_reducible refine Mod.putObj ?_ _ _ (by first | exact .inl rfl | (right; omega) | (right; simp; done) | (right; simp; omega) | (left; omega) | (left; simp; done) | (left; simp; omega))))
              refine leaves_cons (f := 128) (args := #[.pointer (some ⟨w.heap.size + 1, 0, none⟩)]) (by simp) (by simp [go_sem]) ?_
              refine (acaught_idle ⟨w.heap.size + 1, 0, none⟩ _).mono ?_
              rintro e u' w9 ⟨rfl, rfl, rfl⟩
              have d0 := A8.cellv 0 rfl; have d1 := A8.cellv 1 rfl; have d2 := A8.cellv 2 rfl; have d3 := E8.cellv 0 rfl
              refine ⟨.tuple #[.agg #[.int .i64 6, .string (mkB ip), .int .i64 p], .int .i64 0], by simp [results, Tryz.results79, go_sem, d0, d1, d2, d3], by rw [HXN.out]; rfl, N8⟩
      · have c91 : ((s[0].toNat : Int) == 91) = false := by
          rw [beq_eq_false_iff_ne]
          intro q
          exact h91 (UInt8.toNat_inj.1 (by show _ = 91; omega))
        have HRD := hid (fun W (n : New w W) => read4_any (mkB h) W (by omega) (hv.new n))
        have HIP := hid (show ipP s.data.toList h = (read4 h).map (fun ip => ((4 : Int), ip)) by unfold ipP; rw [if_neg (by rw [hhd]; intro q; exact h91 (Option.some.inj q))])
        have HFM := hid (fun w => families_any 4 w)
        rw [famV4] at HFM
        have hme := mth_4 (.agg #[])
        clear h91 hhd
        cases hr : read4 h with
        | none =>
          rw [show (mkB h).data.toList = h from rfl, hr, ipE] at HRD
          have HXN : Hid (X = none) := hid (hX.trans (aP_none3 hl h0 (by rw [HIP.out, hr]; rfl)))
          clear hX hl hv hr
          go_enter_defers Tryz.func79, Tryz.ntmps79
          go_wp2_with (first | (go_at_call 129; refine (HLI.out _).mono ?_; rintro e w1 ⟨rfl, rfl⟩) | (go_at_call 130; refine (aneed_yes 2 _).mono ?_; rintro e w3 ⟨rfl, rfl⟩) | fail)
          refine name_worldA (p := fun W => Code.wp _ _ _ _ W) (fun W hW => ?_)
          have BA2x : Blk W w.heap.size #[.int .i64 0, .string ⟨#[]⟩, .int .i64 0] 64 := by
            rw [hW]
            apply Blk.row
            · repeat (first | with_reducible exact BA.out | (with_reducible apply Blk.newAt; (simp; done)) | with_reducible apply Blk.alloc | with_reducible apply Blk.drew | with_reducible apply Blk.drewN | with_reducible apply Blk.set | (with_reducible apply Blk.other; · first | (simp; done) | (simp; omega) | omega) | (with_reducible apply Blk.putObj; · first | (simp; done) | (simp; omega) | omega))
            · rfl
          have BA2 := hid BA2x
          have BE2x : Blk W (w.heap.size + 1) #[.int .i64 0] 28 := by
            rw [hW]
            apply Blk.row
            · repeat (first | with_reducible exact BE.out | (with_reducible apply Blk.newAt; (simp; done)) | with_reducible apply Blk.alloc | with_reducible apply Blk.drew | with_reducible apply Blk.drewN | with_reducible apply Blk.set | (with_reducible apply Blk.other; · first | (simp; done) | (simp; omega) | omega) | (with_reducible apply Blk.putObj; · first | (simp; done) | (simp; omega) | omega))
            · rfl
          have BE2 := hid BE2x
          have BX2x : Blk W (w.heap.size + 1 + 1) #[.int .i64 4, .string ⟨#[]⟩, .int .i64 0] 64 := by
            rw [hW]
            apply Blk.row
            · repeat (first | with_reducible exact BE.out | (with_reducible apply Blk.newAt; (simp; done)) | with_reducible apply Blk.alloc | with_reducible apply Blk.drew | with_reducible apply Blk.drewN | with_reducible apply Blk.set | (with_reducible apply Blk.other; · first | (simp; done) | (simp; omega) | omega) | (with_reducible apply Blk.putObj; · first | (simp; done) | (simp; omega) | omega))
            · rfl
          have BX2 := hid BX2x
          have N2x : New w W := by
            rw [hW]
            repeat (first | with_reducible exact HN0.out | with_reducible refine Mod.alloc ?_ _ | with_reducible refine Mod.drew ?_ | with_reducible refine Mod.drewN ?_ _ | (with_reducible refine Mod.set ?_ _ _ (by first | exact .inl rfl | (right; omega) | (right; simp; done) | (right; simp; omega) | (left; omega) | (left; simp; done) | (left; simp; omega))) | (with_reducible refine Mod.putObj ?_ _ _ (by first | exact .inl rfl | (right; omega) | (right; simp; done) | (right; simp; omega) | (left; omega) | (left; simp; done) | (left; simp; omega))))
          have N2 := hid N2x
          clear hW BA2x BE2x BX2x N2x
          have c0 := BX2.out.cellv 0 rfl
          refine wp_pq True W ?_ ?pn
          refine wp_region_held_drew (S := (fun w' => w'.cell? ⟨w.heap.size + 1 + 1, 0, none⟩ = some (.int .i64 4))) (by kernel_rfl) c0 (fun hHeld => ?_)
          refine tk (v := ?_) (hQ := PQ.put 20 (by decide) (by decide) _) 0 ?_ ?_
          rotate_left
          · intro w hSw
            (try dsimp only at hSw)
            first | (go_simp; done) | (go_simp; with_reducible rfl) | with_reducible rfl
          simp only [Act.put, List.setIfInBounds_toArray, List.set_cons_zero, List.set_cons_succ]
          refine tk (v := ?_) (hQ := PQ.put 21 (by decide) (by decide) _) 1 ?_ ?_
          rotate_left
          · intro w hSw
            (try dsimp only at hSw)
            first | (go_simp; done) | (go_simp; with_reducible rfl) | with_reducible rfl
          simp only [Act.put, List.setIfInBounds_toArray, List.set_cons_zero, List.set_cons_succ]
          refine tk (v := ?_) (hQ := PQ.put 23 (by decide) (by decide) _) 3 ?_ ?_
          rotate_left
          · intro w hSw
            (try dsimp only at hSw)
            first | (go_simp; done) | (go_simp; with_reducible rfl) | with_reducible rfl
          simp only [Act.put, List.setIfInBounds_toArray, List.set_cons_zero, List.set_cons_succ]
          refine tk (v := ?_) (hQ := PQ.put 24 (by decide) (by decide) _) 4 ?_ ?_
          rotate_left
          · intro w hSw
            (try dsimp only at hSw)
            first | (go_simp; done) | (go_simp; with_reducible rfl) | with_reducible rfl
          simp only [Act.put, List.setIfInBounds_toArray, List.set_cons_zero, List.set_cons_succ]
          refine tk (v := ?_) (hQ := PQ.put 25 (by decide) (by decide) _) 5 ?_ ?_
          rotate_left
          · intro w hSw
            (try dsimp only at hSw)
            first | (go_simp; done) | (go_simp; with_reducible rfl) | with_reducible rfl
          simp only [Act.put, List.setIfInBounds_toArray, List.set_cons_zero, List.set_cons_succ]
          refine wpAnyH_ready (rs := [2]) (by kernel_rfl) (by simp) ?_
          refine AllReadyH.cons rfl (fun K hK => ?_) AllReadyH.nil
          go_simp
          (go_at_call 93; refine (HFM.out _).mono ?_; rintro e w3 ⟨rfl, rfl⟩)
          try dsimp only
          refine hK.out _ _ c0 (fun hHeld2 => ?_)
          clear hK K
          try simp only [Act.put, List.setIfInBounds_toArray, List.set_cons_zero, List.set_cons_succ]
          refine tk (v := ?_) (hQ := PQ.put 26 (by decide) (by decide) _) 6 ?_ ?_
          rotate_left
          · intro w hSw
            (try dsimp only at hSw)
            first | (go_simp; done) | (go_simp; with_reducible rfl) | with_reducible rfl
          simp only [Act.put, List.setIfInBounds_toArray, List.set_cons_zero, List.set_cons_succ]
          refine tk (v := .func (.method "covey/addr.read") #[.iface 164 (.agg #[])] #[]) (hQ := PQ.put 27 (by decide) (by decide) _) 7 ?_ ?_
          · intro w hSw
            kernel_rfl
          simp only [Act.put, List.setIfInBounds_toArray, List.set_cons_zero, List.set_cons_succ]
          refine tk (v := ?_) (hQ := PQ.put 28 (by decide) (by decide) _) 8 ?_ ?_
          rotate_left
          · intro w hSw
            (try dsimp only at hSw)
            first | (go_simp; done) | (go_simp; with_reducible rfl) | with_reducible rfl
          simp only [Act.put, List.setIfInBounds_toArray, List.set_cons_zero, List.set_cons_succ]
          refine wpAnyH_ready (rs := [9]) (by kernel_rfl) (by simp) ?_
          refine AllReadyH.cons rfl (fun K hK => ?_) AllReadyH.nil
          go_simp
          go_at_call 236
          refine (HRD.out _ N2.out.drew).mono ?_
          rintro e w4 ⟨rfl, n4⟩
          case pn =>
            intro _ a' w' n' q2 q3 q4
            have BE' := hid (New.blk n' BE2.out)
            have BA' := hid (New.blk n' BA2.out)
            have MM := hid (N2.out.trans n')
            simp at q2 q3
            refine (show Leaves _ _ a'.tmps _ a'.defers _ w' from ?_)
            rw [q4]
            refine leaves_cons (f := 128) (args := #[.pointer (some ⟨w.heap.size + 1, 0, none⟩)]) (by simp) (by simp [go_sem]) ?_
            refine (acaught_told (w.heap.size + 1) 2 _ BE'.out).mono ?_
            rintro e u' w6 ⟨rfl, rfl, bq, m6⟩
            have A6 := m6.blk BA'.out (by omega)
            have d0 := A6.cellv 0 rfl
            have d1 := A6.cellv 1 rfl
            have d2 := A6.cellv 2 rfl
            have d3 := bq.cellv 0 rfl
            refine ⟨.tuple #[.agg #[.int .i64 0, .string ⟨#[]⟩, .int .i64 0], .int .i64 2], by simp [results, Tryz.results79, go_sem, q2, q3, d0, d1, d2, d3], by rw [HXN.out]; rfl, ?_⟩
            exact MM.out.trans' m6 (fun j h1 h2 => by omega)
          exact ⟨trivial, rfl, ((Mod.refl _ W).drew).trans n4, rfl, rfl, rfl⟩
        | some ip =>
          rw [show (mkB h).data.toList = h from rfl, hr, ipE] at HRD
          have HIPS := hid (show ipP s.data.toList h = some ((4 : Int), ip) by rw [HIP.out, hr]; rfl)
          clear hr HIP
          rw [show (mkB t).data.toList = t from rfl] at HNM
          cases hn : numA 10 65535 t with
          | none =>
            rw [hn, numE] at HNM
            have HXN : Hid (X = none) := hid (hX.trans (aP_none4 hl h0 HIPS.out hn))
            clear hX hl hv hn
            go_enter_defers Tryz.func79, Tryz.ntmps79
            go_wp2_with (first | (go_at_call 129; refine (HLI.out _).mono ?_; rintro e w1 ⟨rfl, rfl⟩) | (go_at_call 130; refine (aneed_yes 2 _).mono ?_; rintro e w3 ⟨rfl, rfl⟩) | fail)
            refine name_worldA (p := fun W => Code.wp _ _ _ _ W) (fun W hW => ?_)
            have BA2x : Blk W w.heap.size #[.int .i64 0, .string ⟨#[]⟩, .int .i64 0] 64 := by
              rw [hW]
              apply Blk.row
              · repeat (first | with_reducible exact BA.out | (with_reducible apply Blk.newAt; (simp; done)) | with_reducible apply Blk.alloc | with_reducible apply Blk.drew | with_reducible apply Blk.drewN | with_reducible apply Blk.set | (with_reducible apply Blk.other; · first | (simp; done) | (simp; omega) | omega) | (with_reducible apply Blk.putObj; · first | (simp; done) | (simp; omega) | omega))
              · rfl
            have BA2 := hid BA2x
            have BE2x : Blk W (w.heap.size + 1) #[.int .i64 0] 28 := by
              rw [hW]
              apply Blk.row
              · repeat (first | with_reducible exact BE.out | (with_reducible apply Blk.newAt; (simp; done)) | with_reducible apply Blk.alloc | with_reducible apply Blk.drew | with_reducible apply Blk.drewN | with_reducible apply Blk.set | (with_reducible apply Blk.other; · first | (simp; done) | (simp; omega) | omega) | (with_reducible apply Blk.putObj; · first | (simp; done) | (simp; omega) | omega))
              · rfl
            have BE2 := hid BE2x
            have BX2x : Blk W (w.heap.size + 1 + 1) #[.int .i64 4, .string ⟨#[]⟩, .int .i64 0] 64 := by
              rw [hW]
              apply Blk.row
              · repeat (first | with_reducible exact BE.out | (with_reducible apply Blk.newAt; (simp; done)) | with_reducible apply Blk.alloc | with_reducible apply Blk.drew | with_reducible apply Blk.drewN | with_reducible apply Blk.set | (with_reducible apply Blk.other; · first | (simp; done) | (simp; omega) | omega) | (with_reducible apply Blk.putObj; · first | (simp; done) | (simp; omega) | omega))
              · rfl
            have BX2 := hid BX2x
            have N2x : New w W := by
              rw [hW]
              repeat (first | with_reducible exact HN0.out | with_reducible refine Mod.alloc ?_ _ | with_reducible refine Mod.drew ?_ | with_reducible refine Mod.drewN ?_ _ | (with_reducible refine Mod.set ?_ _ _ (by first | exact .inl rfl | (right; omega) | (right; simp; done) | (right; simp; omega) | (left; omega) | (left; simp; done) | (left; simp; omega))) | (with_reducible refine Mod.putObj ?_ _ _ (by first | exact .inl rfl | (right; omega) | (right; simp; done) | (right; simp; omega) | (left; omega) | (left; simp; done) | (left; simp; omega))))
            have N2 := hid N2x
            clear hW BA2x BE2x BX2x N2x
            have c0 := BX2.out.cellv 0 rfl
            refine wp_pq False W ?_ ?pn
            refine wp_region_held_drew (S := (fun w' => w'.cell? ⟨w.heap.size + 1 + 1, 0, none⟩ = some (.int .i64 4))) (by kernel_rfl) c0 (fun hHeld => ?_)
            refine tk (v := ?_) (hQ := PQ.put 20 (by decide) (by decide) _) 0 ?_ ?_
            rotate_left
            · intro w hSw
              (try dsimp only at hSw)
              first | (go_simp; done) | (go_simp; with_reducible rfl) | with_reducible rfl
            simp only [Act.put, List.setIfInBounds_toArray, List.set_cons_zero, List.set_cons_succ]
            refine tk (v := ?_) (hQ := PQ.put 21 (by decide) (by decide) _) 1 ?_ ?_
            rotate_left
            · intro w hSw
              (try dsimp only at hSw)
              first | (go_simp; done) | (go_simp; with_reducible rfl) | with_reducible rfl
            simp only [Act.put, List.setIfInBounds_toArray, List.set_cons_zero, List.set_cons_succ]
            refine tk (v := ?_) (hQ := PQ.put 23 (by decide) (by decide) _) 3 ?_ ?_
            rotate_left
            · intro w hSw
              (try dsimp only at hSw)
              first | (go_simp; done) | (go_simp; with_reducible rfl) | with_reducible rfl
            simp only [Act.put, List.setIfInBounds_toArray, List.set_cons_zero, List.set_cons_succ]
            refine tk (v := ?_) (hQ := PQ.put 24 (by decide) (by decide) _) 4 ?_ ?_
            rotate_left
            · intro w hSw
              (try dsimp only at hSw)
              first | (go_simp; done) | (go_simp; with_reducible rfl) | with_reducible rfl
            simp only [Act.put, List.setIfInBounds_toArray, List.set_cons_zero, List.set_cons_succ]
            refine tk (v := ?_) (hQ := PQ.put 25 (by decide) (by decide) _) 5 ?_ ?_
            rotate_left
            · intro w hSw
              (try dsimp only at hSw)
              first | (go_simp; done) | (go_simp; with_reducible rfl) | with_reducible rfl
            simp only [Act.put, List.setIfInBounds_toArray, List.set_cons_zero, List.set_cons_succ]
            refine wpAnyH_ready (rs := [2]) (by kernel_rfl) (by simp) ?_
            refine AllReadyH.cons rfl (fun K hK => ?_) AllReadyH.nil
            go_simp
            (go_at_call 93; refine (HFM.out _).mono ?_; rintro e w3 ⟨rfl, rfl⟩)
            try dsimp only
            refine hK.out _ _ c0 (fun hHeld2 => ?_)
            clear hK K
            try simp only [Act.put, List.setIfInBounds_toArray, List.set_cons_zero, List.set_cons_succ]
            refine tk (v := ?_) (hQ := PQ.put 26 (by decide) (by decide) _) 6 ?_ ?_
            rotate_left
            · intro w hSw
              (try dsimp only at hSw)
              first | (go_simp; done) | (go_simp; with_reducible rfl) | with_reducible rfl
            simp only [Act.put, List.setIfInBounds_toArray, List.set_cons_zero, List.set_cons_succ]
            refine tk (v := .func (.method "covey/addr.read") #[.iface 164 (.agg #[])] #[]) (hQ := PQ.put 27 (by decide) (by decide) _) 7 ?_ ?_
            · intro w hSw
              kernel_rfl
            simp only [Act.put, List.setIfInBounds_toArray, List.set_cons_zero, List.set_cons_succ]
            refine tk (v := ?_) (hQ := PQ.put 28 (by decide) (by decide) _) 8 ?_ ?_
            rotate_left
            · intro w hSw
              (try dsimp only at hSw)
              first | (go_simp; done) | (go_simp; with_reducible rfl) | with_reducible rfl
            simp only [Act.put, List.setIfInBounds_toArray, List.set_cons_zero, List.set_cons_succ]
            refine wpAnyH_ready (rs := [9]) (by kernel_rfl) (by simp) ?_
            refine AllReadyH.cons rfl (fun K hK => ?_) AllReadyH.nil
            go_simp
            go_at_call 236
            refine (HRD.out _ N2.out.drew).mono ?_
            rintro e w4 ⟨rfl, n4⟩
            case pn => intro hz; exact hz.elim
            refine hK.out _ _ (New.cellv (((Mod.refl _ W).drew).trans n4) c0) (fun hHeld9 => ?_)
            clear hK K
            try simp only [Act.put, List.setIfInBounds_toArray, List.set_cons_zero, List.set_cons_succ]
            have N4 := hid (((Mod.refl (fun _ => False) W).drew).trans n4)
            have BX4 := hid (New.blk N4.out BX2.out)
            have BA4 := hid (New.blk N4.out BA2.out)
            have BE4 := hid (New.blk N4.out BE2.out)
            clear n4 c0 BX2 BA2 BE2
            refine tk (v := ?_) (hQ := PQ.put 30 (by decide) (by decide) _) 10 ?_ ?_
            rotate_left
            · intro w hSw
              (try dsimp only at hSw)
              first | (go_simp; done) | (go_simp; with_reducible rfl) | with_reducible rfl
            simp only [Act.put, List.setIfInBounds_toArray, List.set_cons_zero, List.set_cons_succ]
            have x1 := BX4.out.cellv 1 rfl; have xf := BX4.out.frz 1; have xl := BX4.out.lt
            have x0 := BX4.out.cellv 0 rfl
            refine wpAnyH_ready (rs := [11]) (by kernel_rfl) (by simp) ?_
            refine AllReadyH.cons rfl (fun K hK => ?_) AllReadyH.nil
            go_simp
            refine hK.out _ _ ((BX4.out.set 1 (.string (mkB ip))).cellv 0 rfl) (fun hHeld11 => ?_)
            clear hK K
            try simp only [Act.put, List.setIfInBounds_toArray, List.set_cons_zero, List.set_cons_succ]
            refine wpAnyH_done (by kernel_rfl) ?_ _
            obtain ⟨W5, hW5⟩ : ∃ W5, W5 = w4.setCell ⟨w.heap.size + 1 + 1, 1, none⟩ (.string (mkB ip)) := ⟨_, rfl⟩
            rw [← hW5]
            have BX5x : Blk W5 (w.heap.size + 1 + 1) #[.int .i64 4, .string (mkB ip), .int .i64 0] 64 := by
              rw [hW5]
              apply Blk.row
              · repeat (first | with_reducible exact BX4.out | (with_reducible apply Blk.newAt; (simp; done)) | with_reducible apply Blk.alloc | with_reducible apply Blk.drew | with_reducible apply Blk.drewN | with_reducible apply Blk.set | (with_reducible apply Blk.other; · first | (simp; done) | (simp; omega) | omega) | (with_reducible apply Blk.putObj; · first | (simp; done) | (simp; omega) | omega))
              · rfl
            have BX5 := hid BX5x
            have BA5x : Blk W5 w.heap.size #[.int .i64 0, .string ⟨#[]⟩, .int .i64 0] 64 := by
              rw [hW5]
              apply Blk.row
              · repeat (first | with_reducible exact BA4.out | (with_reducible apply Blk.newAt; (simp; done)) | with_reducible apply Blk.alloc | with_reducible apply Blk.drew | with_reducible apply Blk.drewN | with_reducible apply Blk.set | (with_reducible apply Blk.other; · first | (simp; done) | (simp; omega) | omega) | (with_reducible apply Blk.putObj; · first | (simp; done) | (simp; omega) | omega))
              · rfl
            have BA5 := hid BA5x
            have BE5x : Blk W5 (w.heap.size + 1) #[.int .i64 0] 28 := by
              rw [hW5]
              apply Blk.row
              · repeat (first | with_reducible exact BE4.out | (with_reducible apply Blk.newAt; (simp; done)) | with_reducible apply Blk.alloc | with_reducible apply Blk.drew | with_reducible apply Blk.drewN | with_reducible apply Blk.set | (with_reducible apply Blk.other; · first | (simp; done) | (simp; omega) | omega) | (with_reducible apply Blk.putObj; · first | (simp; done) | (simp; omega) | omega))
              · rfl
            have BE5 := hid BE5x
            have N5x : New w W5 := by
              rw [hW5]
              exact Mod.set (N2.out.trans N4.out) _ _ (.inr (by show w.heap.size ≤ w.heap.size + 1 + 1; omega))
            have N5 := hid N5x
            clear hW5 x0 x1 xf xl BX5x BA5x BE5x N5x BX4 BA4 BE4
            simp only [PQ]
            go_wp2_with fail
            refine (HNM.out _ N5.out).mono ?_
            rintro e w6 ⟨rfl, n6⟩
            have BE6 := hid (New.blk n6 BE5.out)
            have BA6 := hid (New.blk n6 BA5.out)
            have N6 := hid (N5.out.trans n6)
            clear n6
            go_wp2
            have HX := HXN
            refine leaves_cons (f := 128) (args := #[.pointer (some ⟨w.heap.size + 1, 0, none⟩)]) (by simp) (by simp [go_sem]) ?_
            refine (acaught_told (w.heap.size + 1) 2 _ BE6.out).mono ?_
            rintro e u' w6 ⟨rfl, rfl, bq, m6⟩
            have A6 := m6.blk BA6.out (by omega)
            have c0 := A6.cellv 0 rfl
            have c1 := A6.cellv 1 rfl
            have c2 := A6.cellv 2 rfl
            have c3 := bq.cellv 0 rfl
            refine ⟨.tuple #[.agg #[.int .i64 0, .string ⟨#[]⟩, .int .i64 0], .int .i64 2], by simp [results, Tryz.results79, go_sem, c0, c1, c2, c3], by rw [HX.out]; rfl, ?_⟩
            exact N6.out.trans' m6 (fun j h1 h2 => by omega)
          | some p =>
            rw [hn, numE] at HNM
            have hp65 := (numA_some hn).1
            by_cases hp : p = 0
            · subst hp
              have HXN : Hid (X = none) := hid (hX.trans (aP_none5 hl h0 HIPS.out hn))
              clear hX hl hv hn
              go_enter_defers Tryz.func79, Tryz.ntmps79
              go_wp2_with (first | (go_at_call 129; refine (HLI.out _).mono ?_; rintro e w1 ⟨rfl, rfl⟩) | (go_at_call 130; refine (aneed_yes 2 _).mono ?_; rintro e w3 ⟨rfl, rfl⟩) | fail)
              refine name_worldA (p := fun W => Code.wp _ _ _ _ W) (fun W hW => ?_)
              have BA2x : Blk W w.heap.size #[.int .i64 0, .string ⟨#[]⟩, .int .i64 0] 64 := by
                rw [hW]
                apply Blk.row
                · repeat (first | with_reducible exact BA.out | (with_reducible apply Blk.newAt; (simp; done)) | with_reducible apply Blk.alloc | with_reducible apply Blk.drew | with_reducible apply Blk.drewN | with_reducible apply Blk.set | (with_reducible apply Blk.other; · first | (simp; done) | (simp; omega) | omega) | (with_reducible apply Blk.putObj; · first | (simp; done) | (simp; omega) | omega))
                · rfl
              have BA2 := hid BA2x
              have BE2x : Blk W (w.heap.size + 1) #[.int .i64 0] 28 := by
                rw [hW]
                apply Blk.row
                · repeat (first | with_reducible exact BE.out | (with_reducible apply Blk.newAt; (simp; done)) | with_reducible apply Blk.alloc | with_reducible apply Blk.drew | with_reducible apply Blk.drewN | with_reducible apply Blk.set | (with_reducible apply Blk.other; · first | (simp; done) | (simp; omega) | omega) | (with_reducible apply Blk.putObj; · first | (simp; done) | (simp; omega) | omega))
                · rfl
              have BE2 := hid BE2x
              have BX2x : Blk W (w.heap.size + 1 + 1) #[.int .i64 4, .string ⟨#[]⟩, .int .i64 0] 64 := by
                rw [hW]
                apply Blk.row
                · repeat (first | with_reducible exact BE.out | (with_reducible apply Blk.newAt; (simp; done)) | with_reducible apply Blk.alloc | with_reducible apply Blk.drew | with_reducible apply Blk.drewN | with_reducible apply Blk.set | (with_reducible apply Blk.other; · first | (simp; done) | (simp; omega) | omega) | (with_reducible apply Blk.putObj; · first | (simp; done) | (simp; omega) | omega))
                · rfl
              have BX2 := hid BX2x
              have N2x : New w W := by
                rw [hW]
                repeat (first | with_reducible exact HN0.out | with_reducible refine Mod.alloc ?_ _ | with_reducible refine Mod.drew ?_ | with_reducible refine Mod.drewN ?_ _ | (with_reducible refine Mod.set ?_ _ _ (by first | exact .inl rfl | (right; omega) | (right; simp; done) | (right; simp; omega) | (left; omega) | (left; simp; done) | (left; simp; omega))) | (with_reducible refine Mod.putObj ?_ _ _ (by first | exact .inl rfl | (right; omega) | (right; simp; done) | (right; simp; omega) | (left; omega) | (left; simp; done) | (left; simp; omega))))
              have N2 := hid N2x
              clear hW BA2x BE2x BX2x N2x
              have c0 := BX2.out.cellv 0 rfl
              refine wp_pq False W ?_ ?pn
              refine wp_region_held_drew (S := (fun w' => w'.cell? ⟨w.heap.size + 1 + 1, 0, none⟩ = some (.int .i64 4))) (by kernel_rfl) c0 (fun hHeld => ?_)
              refine tk (v := ?_) (hQ := PQ.put 20 (by decide) (by decide) _) 0 ?_ ?_
              rotate_left
              · intro w hSw
                (try dsimp only at hSw)
                first | (go_simp; done) | (go_simp; with_reducible rfl) | with_reducible rfl
              simp only [Act.put, List.setIfInBounds_toArray, List.set_cons_zero, List.set_cons_succ]
              refine tk (v := ?_) (hQ := PQ.put 21 (by decide) (by decide) _) 1 ?_ ?_
              rotate_left
              · intro w hSw
                (try dsimp only at hSw)
                first | (go_simp; done) | (go_simp; with_reducible rfl) | with_reducible rfl
              simp only [Act.put, List.setIfInBounds_toArray, List.set_cons_zero, List.set_cons_succ]
              refine tk (v := ?_) (hQ := PQ.put 23 (by decide) (by decide) _) 3 ?_ ?_
              rotate_left
              · intro w hSw
                (try dsimp only at hSw)
                first | (go_simp; done) | (go_simp; with_reducible rfl) | with_reducible rfl
              simp only [Act.put, List.setIfInBounds_toArray, List.set_cons_zero, List.set_cons_succ]
              refine tk (v := ?_) (hQ := PQ.put 24 (by decide) (by decide) _) 4 ?_ ?_
              rotate_left
              · intro w hSw
                (try dsimp only at hSw)
                first | (go_simp; done) | (go_simp; with_reducible rfl) | with_reducible rfl
              simp only [Act.put, List.setIfInBounds_toArray, List.set_cons_zero, List.set_cons_succ]
              refine tk (v := ?_) (hQ := PQ.put 25 (by decide) (by decide) _) 5 ?_ ?_
              rotate_left
              · intro w hSw
                (try dsimp only at hSw)
                first | (go_simp; done) | (go_simp; with_reducible rfl) | with_reducible rfl
              simp only [Act.put, List.setIfInBounds_toArray, List.set_cons_zero, List.set_cons_succ]
              refine wpAnyH_ready (rs := [2]) (by kernel_rfl) (by simp) ?_
              refine AllReadyH.cons rfl (fun K hK => ?_) AllReadyH.nil
              go_simp
              (go_at_call 93; refine (HFM.out _).mono ?_; rintro e w3 ⟨rfl, rfl⟩)
              try dsimp only
              refine hK.out _ _ c0 (fun hHeld2 => ?_)
              clear hK K
              try simp only [Act.put, List.setIfInBounds_toArray, List.set_cons_zero, List.set_cons_succ]
              refine tk (v := ?_) (hQ := PQ.put 26 (by decide) (by decide) _) 6 ?_ ?_
              rotate_left
              · intro w hSw
                (try dsimp only at hSw)
                first | (go_simp; done) | (go_simp; with_reducible rfl) | with_reducible rfl
              simp only [Act.put, List.setIfInBounds_toArray, List.set_cons_zero, List.set_cons_succ]
              refine tk (v := .func (.method "covey/addr.read") #[.iface 164 (.agg #[])] #[]) (hQ := PQ.put 27 (by decide) (by decide) _) 7 ?_ ?_
              · intro w hSw
                kernel_rfl
              simp only [Act.put, List.setIfInBounds_toArray, List.set_cons_zero, List.set_cons_succ]
              refine tk (v := ?_) (hQ := PQ.put 28 (by decide) (by decide) _) 8 ?_ ?_
              rotate_left
              · intro w hSw
                (try dsimp only at hSw)
                first | (go_simp; done) | (go_simp; with_reducible rfl) | with_reducible rfl
              simp only [Act.put, List.setIfInBounds_toArray, List.set_cons_zero, List.set_cons_succ]
              refine wpAnyH_ready (rs := [9]) (by kernel_rfl) (by simp) ?_
              refine AllReadyH.cons rfl (fun K hK => ?_) AllReadyH.nil
              go_simp
              go_at_call 236
              refine (HRD.out _ N2.out.drew).mono ?_
              rintro e w4 ⟨rfl, n4⟩
              case pn => intro hz; exact hz.elim
              refine hK.out _ _ (New.cellv (((Mod.refl _ W).drew).trans n4) c0) (fun hHeld9 => ?_)
              clear hK K
              try simp only [Act.put, List.setIfInBounds_toArray, List.set_cons_zero, List.set_cons_succ]
              have N4 := hid (((Mod.refl (fun _ => False) W).drew).trans n4)
              have BX4 := hid (New.blk N4.out BX2.out)
              have BA4 := hid (New.blk N4.out BA2.out)
              have BE4 := hid (New.blk N4.out BE2.out)
              clear n4 c0 BX2 BA2 BE2
              refine tk (v := ?_) (hQ := PQ.put 30 (by decide) (by decide) _) 10 ?_ ?_
              rotate_left
              · intro w hSw
                (try dsimp only at hSw)
                first | (go_simp; done) | (go_simp; with_reducible rfl) | with_reducible rfl
              simp only [Act.put, List.setIfInBounds_toArray, List.set_cons_zero, List.set_cons_succ]
              have x1 := BX4.out.cellv 1 rfl; have xf := BX4.out.frz 1; have xl := BX4.out.lt
              have x0 := BX4.out.cellv 0 rfl
              refine wpAnyH_ready (rs := [11]) (by kernel_rfl) (by simp) ?_
              refine AllReadyH.cons rfl (fun K hK => ?_) AllReadyH.nil
              go_simp
              refine hK.out _ _ ((BX4.out.set 1 (.string (mkB ip))).cellv 0 rfl) (fun hHeld11 => ?_)
              clear hK K
              try simp only [Act.put, List.setIfInBounds_toArray, List.set_cons_zero, List.set_cons_succ]
              refine wpAnyH_done (by kernel_rfl) ?_ _
              obtain ⟨W5, hW5⟩ : ∃ W5, W5 = w4.setCell ⟨w.heap.size + 1 + 1, 1, none⟩ (.string (mkB ip)) := ⟨_, rfl⟩
              rw [← hW5]
              have BX5x : Blk W5 (w.heap.size + 1 + 1) #[.int .i64 4, .string (mkB ip), .int .i64 0] 64 := by
                rw [hW5]
                apply Blk.row
                · repeat (first | with_reducible exact BX4.out | (with_reducible apply Blk.newAt; (simp; done)) | with_reducible apply Blk.alloc | with_reducible apply Blk.drew | with_reducible apply Blk.drewN | with_reducible apply Blk.set | (with_reducible apply Blk.other; · first | (simp; done) | (simp; omega) | omega) | (with_reducible apply Blk.putObj; · first | (simp; done) | (simp; omega) | omega))
                · rfl
              have BX5 := hid BX5x
              have BA5x : Blk W5 w.heap.size #[.int .i64 0, .string ⟨#[]⟩, .int .i64 0] 64 := by
                rw [hW5]
                apply Blk.row
                · repeat (first | with_reducible exact BA4.out | (with_reducible apply Blk.newAt; (simp; done)) | with_reducible apply Blk.alloc | with_reducible apply Blk.drew | with_reducible apply Blk.drewN | with_reducible apply Blk.set | (with_reducible apply Blk.other; · first | (simp; done) | (simp; omega) | omega) | (with_reducible apply Blk.putObj; · first | (simp; done) | (simp; omega) | omega))
                · rfl
              have BA5 := hid BA5x
              have BE5x : Blk W5 (w.heap.size + 1) #[.int .i64 0] 28 := by
                rw [hW5]
                apply Blk.row
                · repeat (first | with_reducible exact BE4.out | (with_reducible apply Blk.newAt; (simp; done)) | with_reducible apply Blk.alloc | with_reducible apply Blk.drew | with_reducible apply Blk.drewN | with_reducible apply Blk.set | (with_reducible apply Blk.other; · first | (simp; done) | (simp; omega) | omega) | (with_reducible apply Blk.putObj; · first | (simp; done) | (simp; omega) | omega))
                · rfl
              have BE5 := hid BE5x
              have N5x : New w W5 := by
                rw [hW5]
                exact Mod.set (N2.out.trans N4.out) _ _ (.inr (by show w.heap.size ≤ w.heap.size + 1 + 1; omega))
              have N5 := hid N5x
              clear hW5 x0 x1 xf xl BX5x BA5x BE5x N5x BX4 BA4 BE4
              simp only [PQ]
              go_wp2_with fail
              refine (HNM.out _ N5.out).mono ?_
              rintro e w6 ⟨rfl, n6⟩
              have BE6 := hid (New.blk n6 BE5.out)
              have BA6 := hid (New.blk n6 BA5.out)
              have BX6 := hid (New.blk n6 BX5.out)
              have N6 := hid (N5.out.trans n6)
              have x2 := BX6.out.cellv 2 rfl; have xf := BX6.out.frz 2; have xl := BX6.out.lt
              have x20 : (w6.setCell ⟨w.heap.size + 1 + 1, 2, none⟩ (.int .i64 0)).cell? ⟨w.heap.size + 1 + 1, 2, none⟩ = some (.int .i64 0) := (BX6.out.set 2 (.int .i64 0)).cellv 2 rfl
              clear n6
              go_wp2_with fail
              refine (aneed_no 2 _).mono ?_
              rintro e w7 ⟨rfl, rfl⟩
              go_wp2
              have HX := HXN
              refine name_worldA (p := fun W => Leaves _ _ _ _ _ _ W) (fun W7 hW7 => ?_)
              have BA7x : Blk W7 w.heap.size #[.int .i64 0, .string ⟨#[]⟩, .int .i64 0] 64 := by
                rw [hW7]
                apply Blk.row
                · repeat (first | with_reducible exact BA6.out | (with_reducible apply Blk.newAt; (simp; done)) | with_reducible apply Blk.alloc | with_reducible apply Blk.drew | with_reducible apply Blk.drewN | with_reducible apply Blk.set | (with_reducible apply Blk.other; · first | (simp; done) | (simp; omega) | omega) | (with_reducible apply Blk.putObj; · first | (simp; done) | (simp; omega) | omega))
                · rfl
              have BA7 := hid BA7x
              have BE7x : Blk W7 (w.heap.size + 1) #[.int .i64 0] 28 := by
                rw [hW7]
                apply Blk.row
                · repeat (first | with_reducible exact BE6.out | (with_reducible apply Blk.newAt; (simp; done)) | with_reducible apply Blk.alloc | with_reducible apply Blk.drew | with_reducible apply Blk.drewN | with_reducible apply Blk.set | (with_reducible apply Blk.other; · first | (simp; done) | (simp; omega) | omega) | (with_reducible apply Blk.putObj; · first | (simp; done) | (simp; omega) | omega))
                · rfl
              have BE7 := hid BE7x
              have N7x : New w W7 := by
                rw [hW7]
                exact Mod.set N6.out _ _ (.inr (by show w.heap.size ≤ w.heap.size + 1 + 1; omega))
              have N7 := hid N7x
              clear hW7 BA7x BE7x N7x
              refine leaves_cons (f := 128) (args := #[.pointer (some ⟨w.heap.size + 1, 0, none⟩)]) (by simp) (by simp [go_sem]) ?_
              refine (acaught_told (w.heap.size + 1) 2 _ BE7.out).mono ?_
              rintro e u' w6 ⟨rfl, rfl, bq, m6⟩
              have A6 := m6.blk BA7.out (by omega)
              have c0 := A6.cellv 0 rfl
              have c1 := A6.cellv 1 rfl
              have c2 := A6.cellv 2 rfl
              have c3 := bq.cellv 0 rfl
              refine ⟨.tuple #[.agg #[.int .i64 0, .string ⟨#[]⟩, .int .i64 0], .int .i64 2], by simp [results, Tryz.results79, go_sem, c0, c1, c2, c3], by rw [HX.out]; rfl, ?_⟩
              exact N7.out.trans' m6 (fun j h1 h2 => by omega)
            · have HXN : Hid (X = some ⟨4, mkB ip, p⟩) := hid (hX.trans (aP_some hl h0 HIPS.out hn hp))
              have hpI : (0 : Int) < (p : Int) := by omega
              have hpd : decide ((0 : Int) < (p : Int)) = true := decide_eq_true hpI
              have hpd2 : decide (0 < p) = true := decide_eq_true (by omega)
              clear hX hl hv hn
              go_enter_defers Tryz.func79, Tryz.ntmps79
              go_wp2_with (first | (go_at_call 129; refine (HLI.out _).mono ?_; rintro e w1 ⟨rfl, rfl⟩) | (go_at_call 130; refine (aneed_yes 2 _).mono ?_; rintro e w3 ⟨rfl, rfl⟩) | fail)
              refine name_worldA (p := fun W => Code.wp _ _ _ _ W) (fun W hW => ?_)
              have BA2x : Blk W w.heap.size #[.int .i64 0, .string ⟨#[]⟩, .int .i64 0] 64 := by
                rw [hW]
                apply Blk.row
                · repeat (first | with_reducible exact BA.out | (with_reducible apply Blk.newAt; (simp; done)) | with_reducible apply Blk.alloc | with_reducible apply Blk.drew | with_reducible apply Blk.drewN | with_reducible apply Blk.set | (with_reducible apply Blk.other; · first | (simp; done) | (simp; omega) | omega) | (with_reducible apply Blk.putObj; · first | (simp; done) | (simp; omega) | omega))
                · rfl
              have BA2 := hid BA2x
              have BE2x : Blk W (w.heap.size + 1) #[.int .i64 0] 28 := by
                rw [hW]
                apply Blk.row
                · repeat (first | with_reducible exact BE.out | (with_reducible apply Blk.newAt; (simp; done)) | with_reducible apply Blk.alloc | with_reducible apply Blk.drew | with_reducible apply Blk.drewN | with_reducible apply Blk.set | (with_reducible apply Blk.other; · first | (simp; done) | (simp; omega) | omega) | (with_reducible apply Blk.putObj; · first | (simp; done) | (simp; omega) | omega))
                · rfl
              have BE2 := hid BE2x
              have BX2x : Blk W (w.heap.size + 1 + 1) #[.int .i64 4, .string ⟨#[]⟩, .int .i64 0] 64 := by
                rw [hW]
                apply Blk.row
                · repeat (first | with_reducible exact BE.out | (with_reducible apply Blk.newAt; (simp; done)) | with_reducible apply Blk.alloc | with_reducible apply Blk.drew | with_reducible apply Blk.drewN | with_reducible apply Blk.set | (with_reducible apply Blk.other; · first | (simp; done) | (simp; omega) | omega) | (with_reducible apply Blk.putObj; · first | (simp; done) | (simp; omega) | omega))
                · rfl
              have BX2 := hid BX2x
              have N2x : New w W := by
                rw [hW]
                repeat (first | with_reducible exact HN0.out | with_reducible refine Mod.alloc ?_ _ | with_reducible refine Mod.drew ?_ | with_reducible refine Mod.drewN ?_ _ | (with_reducible refine Mod.set ?_ _ _ (by first | exact .inl rfl | (right; omega) | (right; simp; done) | (right; simp; omega) | (left; omega) | (left; simp; done) | (left; simp; omega))) | (with_reducible refine Mod.putObj ?_ _ _ (by first | exact .inl rfl | (right; omega) | (right; simp; done) | (right; simp; omega) | (left; omega) | (left; simp; done) | (left; simp; omega))))
              have N2 := hid N2x
              clear hW BA2x BE2x BX2x N2x
              have c0 := BX2.out.cellv 0 rfl
              refine wp_pq False W ?_ ?pn
              refine wp_region_held_drew (S := (fun w' => w'.cell? ⟨w.heap.size + 1 + 1, 0, none⟩ = some (.int .i64 4))) (by kernel_rfl) c0 (fun hHeld => ?_)
              refine tk (v := ?_) (hQ := PQ.put 20 (by decide) (by decide) _) 0 ?_ ?_
              rotate_left
              · intro w hSw
                (try dsimp only at hSw)
                first | (go_simp; done) | (go_simp; with_reducible rfl) | with_reducible rfl
              simp only [Act.put, List.setIfInBounds_toArray, List.set_cons_zero, List.set_cons_succ]
              refine tk (v := ?_) (hQ := PQ.put 21 (by decide) (by decide) _) 1 ?_ ?_
              rotate_left
              · intro w hSw
                (try dsimp only at hSw)
                first | (go_simp; done) | (go_simp; with_reducible rfl) | with_reducible rfl
              simp only [Act.put, List.setIfInBounds_toArray, List.set_cons_zero, List.set_cons_succ]
              refine tk (v := ?_) (hQ := PQ.put 23 (by decide) (by decide) _) 3 ?_ ?_
              rotate_left
              · intro w hSw
                (try dsimp only at hSw)
                first | (go_simp; done) | (go_simp; with_reducible rfl) | with_reducible rfl
              simp only [Act.put, List.setIfInBounds_toArray, List.set_cons_zero, List.set_cons_succ]
              refine tk (v := ?_) (hQ := PQ.put 24 (by decide) (by decide) _) 4 ?_ ?_
              rotate_left
              · intro w hSw
                (try dsimp only at hSw)
                first | (go_simp; done) | (go_simp; with_reducible rfl) | with_reducible rfl
              simp only [Act.put, List.setIfInBounds_toArray, List.set_cons_zero, List.set_cons_succ]
              refine tk (v := ?_) (hQ := PQ.put 25 (by decide) (by decide) _) 5 ?_ ?_
              rotate_left
              · intro w hSw
                (try dsimp only at hSw)
                first | (go_simp; done) | (go_simp; with_reducible rfl) | with_reducible rfl
              simp only [Act.put, List.setIfInBounds_toArray, List.set_cons_zero, List.set_cons_succ]
              refine wpAnyH_ready (rs := [2]) (by kernel_rfl) (by simp) ?_
              refine AllReadyH.cons rfl (fun K hK => ?_) AllReadyH.nil
              go_simp
              (go_at_call 93; refine (HFM.out _).mono ?_; rintro e w3 ⟨rfl, rfl⟩)
              try dsimp only
              refine hK.out _ _ c0 (fun hHeld2 => ?_)
              clear hK K
              try simp only [Act.put, List.setIfInBounds_toArray, List.set_cons_zero, List.set_cons_succ]
              refine tk (v := ?_) (hQ := PQ.put 26 (by decide) (by decide) _) 6 ?_ ?_
              rotate_left
              · intro w hSw
                (try dsimp only at hSw)
                first | (go_simp; done) | (go_simp; with_reducible rfl) | with_reducible rfl
              simp only [Act.put, List.setIfInBounds_toArray, List.set_cons_zero, List.set_cons_succ]
              refine tk (v := .func (.method "covey/addr.read") #[.iface 164 (.agg #[])] #[]) (hQ := PQ.put 27 (by decide) (by decide) _) 7 ?_ ?_
              · intro w hSw
                kernel_rfl
              simp only [Act.put, List.setIfInBounds_toArray, List.set_cons_zero, List.set_cons_succ]
              refine tk (v := ?_) (hQ := PQ.put 28 (by decide) (by decide) _) 8 ?_ ?_
              rotate_left
              · intro w hSw
                (try dsimp only at hSw)
                first | (go_simp; done) | (go_simp; with_reducible rfl) | with_reducible rfl
              simp only [Act.put, List.setIfInBounds_toArray, List.set_cons_zero, List.set_cons_succ]
              refine wpAnyH_ready (rs := [9]) (by kernel_rfl) (by simp) ?_
              refine AllReadyH.cons rfl (fun K hK => ?_) AllReadyH.nil
              go_simp
              go_at_call 236
              refine (HRD.out _ N2.out.drew).mono ?_
              rintro e w4 ⟨rfl, n4⟩
              case pn => intro hz; exact hz.elim
              refine hK.out _ _ (New.cellv (((Mod.refl _ W).drew).trans n4) c0) (fun hHeld9 => ?_)
              clear hK K
              try simp only [Act.put, List.setIfInBounds_toArray, List.set_cons_zero, List.set_cons_succ]
              have N4 := hid (((Mod.refl (fun _ => False) W).drew).trans n4)
              have BX4 := hid (New.blk N4.out BX2.out)
              have BA4 := hid (New.blk N4.out BA2.out)
              have BE4 := hid (New.blk N4.out BE2.out)
              clear n4 c0 BX2 BA2 BE2
              refine tk (v := ?_) (hQ := PQ.put 30 (by decide) (by decide) _) 10 ?_ ?_
              rotate_left
              · intro w hSw
                (try dsimp only at hSw)
                first | (go_simp; done) | (go_simp; with_reducible rfl) | with_reducible rfl
              simp only [Act.put, List.setIfInBounds_toArray, List.set_cons_zero, List.set_cons_succ]
              have x1 := BX4.out.cellv 1 rfl; have xf := BX4.out.frz 1; have xl := BX4.out.lt
              have x0 := BX4.out.cellv 0 rfl
              refine wpAnyH_ready (rs := [11]) (by kernel_rfl) (by simp) ?_
              refine AllReadyH.cons rfl (fun K hK => ?_) AllReadyH.nil
              go_simp
              refine hK.out _ _ ((BX4.out.set 1 (.string (mkB ip))).cellv 0 rfl) (fun hHeld11 => ?_)
              clear hK K
              try simp only [Act.put, List.setIfInBounds_toArray, List.set_cons_zero, List.set_cons_succ]
              refine wpAnyH_done (by kernel_rfl) ?_ _
              obtain ⟨W5, hW5⟩ : ∃ W5, W5 = w4.setCell ⟨w.heap.size + 1 + 1, 1, none⟩ (.string (mkB ip)) := ⟨_, rfl⟩
              rw [← hW5]
              have BX5x : Blk W5 (w.heap.size + 1 + 1) #[.int .i64 4, .string (mkB ip), .int .i64 0] 64 := by
                rw [hW5]
                apply Blk.row
                · repeat (first | with_reducible exact BX4.out | (with_reducible apply Blk.newAt; (simp; done)) | with_reducible apply Blk.alloc | with_reducible apply Blk.drew | with_reducible apply Blk.drewN | with_reducible apply Blk.set | (with_reducible apply Blk.other; · first | (simp; done) | (simp; omega) | omega) | (with_reducible apply Blk.putObj; · first | (simp; done) | (simp; omega) | omega))
                · rfl
              have BX5 := hid BX5x
              have BA5x : Blk W5 w.heap.size #[.int .i64 0, .string ⟨#[]⟩, .int .i64 0] 64 := by
                rw [hW5]
                apply Blk.row
                · repeat (first | with_reducible exact BA4.out | (with_reducible apply Blk.newAt; (simp; done)) | with_reducible apply Blk.alloc | with_reducible apply Blk.drew | with_reducible apply Blk.drewN | with_reducible apply Blk.set | (with_reducible apply Blk.other; · first | (simp; done) | (simp; omega) | omega) | (with_reducible apply Blk.putObj; · first | (simp; done) | (simp; omega) | omega))
                · rfl
              have BA5 := hid BA5x
              have BE5x : Blk W5 (w.heap.size + 1) #[.int .i64 0] 28 := by
                rw [hW5]
                apply Blk.row
                · repeat (first | with_reducible exact BE4.out | (with_reducible apply Blk.newAt; (simp; done)) | with_reducible apply Blk.alloc | with_reducible apply Blk.drew | with_reducible apply Blk.drewN | with_reducible apply Blk.set | (with_reducible apply Blk.other; · first | (simp; done) | (simp; omega) | omega) | (with_reducible apply Blk.putObj; · first | (simp; done) | (simp; omega) | omega))
                · rfl
              have BE5 := hid BE5x
              have N5x : New w W5 := by
                rw [hW5]
                exact Mod.set (N2.out.trans N4.out) _ _ (.inr (by show w.heap.size ≤ w.heap.size + 1 + 1; omega))
              have N5 := hid N5x
              clear hW5 x0 x1 xf xl BX5x BA5x BE5x N5x BX4 BA4 BE4
              simp only [PQ]
              go_wp2_with fail
              refine (HNM.out _ N5.out).mono ?_
              rintro e w6 ⟨rfl, n6⟩
              have BE6 := hid (New.blk n6 BE5.out)
              have BA6 := hid (New.blk n6 BA5.out)
              have BX6 := hid (New.blk n6 BX5.out)
              have N6 := hid (N5.out.trans n6)
              have x2 := BX6.out.cellv 2 rfl; have xf := BX6.out.frz 2; have xl := BX6.out.lt
              have x20 : (w6.setCell ⟨w.heap.size + 1 + 1, 2, none⟩ (.int .i64 (p : Int))).cell? ⟨w.heap.size + 1 + 1, 2, none⟩ = some (.int .i64 (p : Int)) := (BX6.out.set 2 (.int .i64 (p : Int))).cellv 2 rfl
              clear n6
              go_wp2_with fail
              refine (aneed_yes 2 _).mono ?_
              rintro e w7 ⟨rfl, rfl⟩
              have y0 : (w6.setCell ⟨w.heap.size + 1 + 1, 2, none⟩ (.int .i64 p)).cell? ⟨w.heap.size + 1 + 1, 0, none⟩ = some (.int .i64 4) := (BX6.out.set 2 (.int .i64 p)).cellv 0 rfl
              have y1 : (w6.setCell ⟨w.heap.size + 1 + 1, 2, none⟩ (.int .i64 p)).cell? ⟨w.heap.size + 1 + 1, 1, none⟩ = some (.string (mkB ip)) := (BX6.out.set 2 (.int .i64 p)).cellv 1 rfl
              have BA7x : Blk (w6.setCell ⟨w.heap.size + 1 + 1, 2, none⟩ (.int .i64 p)) w.heap.size #[.int .i64 0, .string ⟨#[]⟩, .int .i64 0] 64 := by
                apply Blk.row
                · repeat (first | with_reducible exact BA6.out | (with_reducible apply Blk.newAt; (simp; done)) | with_reducible apply Blk.alloc | with_reducible apply Blk.drew | with_reducible apply Blk.drewN | with_reducible apply Blk.set | (with_reducible apply Blk.other; · first | (simp; done) | (simp; omega) | omega) | (with_reducible apply Blk.putObj; · first | (simp; done) | (simp; omega) | omega))
                · rfl
              have BE7x : Blk (w6.setCell ⟨w.heap.size + 1 + 1, 2, none⟩ (.int .i64 p)) (w.heap.size + 1) #[.int .i64 0] 28 := by
                apply Blk.row
                · repeat (first | with_reducible exact BE6.out | (with_reducible apply Blk.newAt; (simp; done)) | with_reducible apply Blk.alloc | with_reducible apply Blk.drew | with_reducible apply Blk.drewN | with_reducible apply Blk.set | (with_reducible apply Blk.other; · first | (simp; done) | (simp; omega) | omega) | (with_reducible apply Blk.putObj; · first | (simp; done) | (simp; omega) | omega))
                · rfl
              have BA7 := hid BA7x
              have BE7 := hid BE7x
              have N7 : Hid (New w (w6.setCell ⟨w.heap.size + 1 + 1, 2, none⟩ (.int .i64 p))) := hid (Mod.set N6.out _ _ (.inr (by show w.heap.size ≤ w.heap.size + 1 + 1; omega)))
              obtain ⟨W7, hW7⟩ : ∃ W7, W7 = w6.setCell ⟨w.heap.size + 1 + 1, 2, none⟩ (.int .i64 p) := ⟨_, rfl⟩
              rw [← hW7] at y0 y1 x20 BA7 BE7 N7 ⊢
              clear hW7 BA7x BE7x x2 xf
              have a0 := BA7.out.cellv 0 rfl; have a1 := BA7.out.cellv 1 rfl; have a2 := BA7.out.cellv 2 rfl; have al := BA7.out.lt; have af := BA7.out.frz
              have q0 := BE7.out.cellv 0 rfl; have ql := BE7.out.lt; have qf := BE7.out.frz
              go_wp2
              have A8 : Blk ((((W7.setCell ⟨w.heap.size, 0, none⟩ (.int .i64 4)).setCell ⟨w.heap.size, 1, none⟩ (.string (mkB ip))).setCell ⟨w.heap.size, 2, none⟩ (.int .i64 p)).setCell ⟨w.heap.size + 1, 0, none⟩ (.int .i64 0)) w.heap.size #[.int .i64 4, .string (mkB ip), .int .i64 p] 64 := by
                apply Blk.row
                · repeat (first | with_reducible exact BA7.out | (with_reducible apply Blk.newAt; (simp; done)) | with_reducible apply Blk.alloc | with_reducible apply Blk.drew | with_reducible apply Blk.drewN | with_reducible apply Blk.set | (with_reducible apply Blk.other; · first | (simp; done) | (simp; omega) | omega) | (with_reducible apply Blk.putObj; · first | (simp; done) | (simp; omega) | omega))
                · rfl
              have E8 : Blk ((((W7.setCell ⟨w.heap.size, 0, none⟩ (.int .i64 4)).setCell ⟨w.heap.size, 1, none⟩ (.string (mkB ip))).setCell ⟨w.heap.size, 2, none⟩ (.int .i64 p)).setCell ⟨w.heap.size + 1, 0, none⟩ (.int .i64 0)) (w.heap.size + 1) #[.int .i64 0] 28 := by
                apply Blk.row
                · repeat (first | with_reducible exact BE7.out | (with_reducible apply Blk.newAt; (simp; done)) | with_reducible apply Blk.alloc | with_reducible apply Blk.drew | with_reducible apply Blk.drewN | with_reducible apply Blk.set | (with_reducible apply Blk.other; · first | (simp; done) | (simp; omega) | omega) | (with_reducible apply Blk.putObj; · first | (simp; done) | (simp; omega) | omega))
                · rfl
              have N8 : New w ((((W7.setCell ⟨w.heap.size, 0, none⟩ (.int .i64 4)).setCell ⟨w.heap.size, 1, none⟩ (.string (mkB ip))).setCell ⟨w.heap.size, 2, none⟩ (.int .i64 p)).setCell ⟨w.heap.size + 1, 0, none⟩ (.int .i64 0)) := by
                repeat (first | with_reducible exact N7.out | with_reducible refine Mod.alloc ?_ _ | with_reducible refine Mod.drew ?_ | with_reducible refine Mod.drewN ?_ _ | (with_reducible refine Mod.set ?_ _ _ (by first | exact .inl rfl | (right; omega) | (right; simp; done) | (right; simp; omega) | (left; omega) | (left; simp; done) | (left; simp; omega))) | (with_reducible refine Mod.putObj ?_ _ _ (by first | exact .inl rfl | (right; omega) | (right; simp; done) | (right; simp; omega) | (left; omega) | (left; simp; done) | (left; simp; omega))))
              refine leaves_cons (f := 128) (args := #[.pointer (some ⟨w.heap.size + 1, 0, none⟩)]) (by simp) (by simp [go_sem]) ?_
              refine (acaught_idle ⟨w.heap.size + 1, 0, none⟩ _).mono ?_
              rintro e u' w9 ⟨rfl, rfl, rfl⟩
              have d0 := A8.cellv 0 rfl; have d1 := A8.cellv 1 rfl; have d2 := A8.cellv 2 rfl; have d3 := E8.cellv 0 rfl
              refine ⟨.tuple #[.agg #[.int .i64 4, .string (mkB ip), .int .i64 p], .int .i64 0], by simp [results, Tryz.results79, go_sem, d0, d1, d2, d3], by rw [HXN.out]; rfl, N8⟩
end Go.Proofs.YtbgmkplpolgebaaGreatDoor
