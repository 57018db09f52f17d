/-
  Several texts in one, in their build order. What both criers tell and when, in plain words: the same. Plain Lean over what the walks show. No condition but those of the lemmas.
-/
import Derived.Test.YtnflhjagmngimaaGreatDoorM36
import Derived.Test.YtnflhjagmngimaaGreatDoorM35
namespace Go.Proofs.YtnflhjagmngimaaGreatDoor
set_option linter.unusedSimpArgs false
set_option linter.unusedVariables false
open Go.RowKit

theorem dueC_eq {every t z : Int} (ht : 0 ≤ t) : dueC every t z = max t (dueT every z) := by
  unfold dueC dueT
  split <;> split <;> omega
theorem least_fold {every t : Int} (ht : 0 ≤ t) : ∀ (U : List (ByteArray × Int)) (b : Int), 0 ≤ b → (0 ≤ U.foldl (leastStepC every t) b ∧ U.foldl (leastStepC every t) b ≤ b ∧ (∀ x ∈ U, U.foldl (leastStepC every t) b ≤ dueC every t x.2) ∧ (U.foldl (leastStepC every t) b = b ∨ ∃ x ∈ U, U.foldl (leastStepC every t) b = dueC every t x.2))
  | [], b, hb => ⟨hb, Int.le_refl _, (fun x hx => by cases hx), .inl rfl⟩
  | x :: U, b, hb => by
    have hd : 0 ≤ dueC every t x.2 := by rw [dueC_eq ht]; omega
    rw [List.foldl_cons]
    have hs : leastStepC every t b x = min b (dueC every t x.2) := by
      unfold leastStepC
      split <;> omega
    obtain ⟨h1, h2, h3, h4⟩ := least_fold ht U (leastStepC every t b x) (by omega)
    refine ⟨h1, by omega, fun y hy => ?_, ?_⟩
    · rcases List.mem_cons.1 hy with rfl | hy
      · omega
      · exact h3 y hy
    · rcases h4 with h4 | ⟨y, hy, h4⟩
      · rw [h4]
        by_cases g : b ≤ dueC every t x.2
        · left; omega
        · right; exact ⟨x, List.mem_cons_self, by omega⟩
      · exact .inr ⟨y, List.mem_cons_of_mem _ hy, h4⟩
theorem least_is {every t : Int} (ht : 0 ≤ t) {U : List (ByteArray × Int)} (hU : U ≠ []) : (∀ x ∈ U, leastC every t U ≤ dueC every t x.2) ∧ ∃ x ∈ U, leastC every t U = dueC every t x.2 := by
  cases U with
  | nil => exact absurd rfl hU
  | cons x U =>
    have hd : 0 ≤ dueC every t x.2 := by rw [dueC_eq ht]; omega
    have e : leastC every t (x :: U) = U.foldl (leastStepC every t) (dueC every t x.2) := by
      unfold leastC
      rw [List.foldl_cons]
      congr 1
    obtain ⟨h1, h2, h3, h4⟩ := least_fold ht U (dueC every t x.2) hd
    rw [e]
    refine ⟨fun y hy => ?_, ?_⟩
    · rcases List.mem_cons.1 hy with rfl | hy
      · exact h2
      · exact h3 y hy
    · rcases h4 with h4 | ⟨y, hy, h4⟩
      · exact ⟨x, List.mem_cons_self, h4⟩
      · exact ⟨y, List.mem_cons_of_mem _ hy, h4⟩
theorem Alk.pair {c : CrV} {r : RcV} (h : Alk c r) {f : ByteArray} (hf : f ∈ c.all) : ∃ x ∈ r.all, x.1 = f ∧ x.2 = c.last f := by
  obtain ⟨x, hx, rfl⟩ := List.mem_map.1 ((h.names f).1 hf)
  exact ⟨x, hx, rfl, h.last x hx⟩
theorem Alk.least {c : CrV} {r : RcV} (h : Alk c r) (he : 0 ≤ c.every) {t : Int} (ht : 0 ≤ t) {f : ByteArray} (hf : f ∈ c.all) (hmin : ∀ m ∈ c.all, c.last f ≤ c.last m) : leastC r.every t r.all = max t (dueT c.every (c.last f)) := by
  obtain ⟨x, hx, hx1, hx2⟩ := h.pair hf
  obtain ⟨h1, y, hy, h2⟩ := least_is (every := r.every) ht (U := r.all) (List.ne_nil_of_mem hx)
  have h3 := h1 x hx
  have hyc : y.1 ∈ c.all := (h.names _).2 (List.mem_map.2 ⟨y, hy, rfl⟩)
  have h4 := dueT_mono he (hmin _ hyc)
  rw [dueC_eq ht, hx2, h.every] at h3
  rw [dueC_eq ht, h.last y hy, h.every] at h2
  rw [h.every] at *
  omega
theorem Alk.whenT {c : CrV} {r : RcV} (h : Alk c r) (he : 0 ≤ c.every) {t : Int} (ht : 0 ≤ t) {f : ByteArray} (hf : f ∈ c.all) (hmin : ∀ m ∈ c.all, c.last f ≤ c.last m) : r.whenT t = whenT c.every c.sent t (c.last f) := by
  unfold RcV.whenT Go.Proofs.YtnflhjagmngimaaGreatDoor.whenT
  rw [h.least he ht hf hmin]
  rcases h.sent with ⟨h1, h2, h3⟩ | ⟨h1, h2⟩
  · rw [h1, if_pos rfl, h2, if_pos h3]
  · rw [h1, h2, if_neg (by decide), if_neg (by decide)]
theorem Alk.none {c : CrV} {r : RcV} (h : Alk c r) (hn : c.all = []) : r.all = [] := by
  have := h.len
  rw [hn] at this
  exact List.eq_nil_of_length_eq_zero this
theorem Alk.some {c : CrV} {r : RcV} (h : Alk c r) {f : ByteArray} (hf : f ∈ c.all) : r.all ≠ [] := by
  obtain ⟨x, hx, -⟩ := h.pair hf
  exact List.ne_nil_of_mem hx
/-! The names that are due, in both orders. -/
theorem cb_less : ∀ a b : List UInt8, Lib.compareBytes a b < 0 ↔ a < b
  | [], [] => by simp [Lib.compareBytes]
  | [], _ :: _ => by simp [Lib.compareBytes]
  | _ :: _, [] => by simp [Lib.compareBytes]
  | x :: a, y :: b => by
    have ih := cb_less a b
    unfold Lib.compareBytes
    rw [List.cons_lt_cons_iff]
    by_cases h1 : x < y
    · simp [h1]
    · by_cases h2 : y < x
      · have h3 : x ≠ y := fun q => by subst q; exact h1 h2
        simp [h1, h2, h3]
      · have h3 : x = y := UInt8.le_antisymm (UInt8.not_lt.1 h2) (UInt8.not_lt.1 h1)
        subst h3
        simp [h1, ih]
theorem namesP_iff {last : ByteArray → Int} {x y : ByteArray} : NamesP last x y ↔ last x < last y ∨ last x = last y ∧ x.data.toList ≤ y.data.toList := by
  unfold NamesP Go.Proofs.ltOf befN
  rw [decide_eq_false_iff_not]
  by_cases e : last y - last x = 0
  · rw [if_pos e, cb_less, List.not_lt]
    constructor
    · intro h; exact .inr ⟨by omega, h⟩
    · rintro (h | h)
      · omega
      · exact h.2
  · rw [if_neg e]
    constructor
    · intro h; left; omega
    · rintro (h | h) <;> omega
theorem namesP_anti {last : ByteArray → Int} {x y : ByteArray} (h1 : NamesP last x y) (h2 : NamesP last y x) : x = y := by
  rw [namesP_iff] at h1 h2
  rcases h1 with h1 | h1 <;> rcases h2 with h2 | h2 <;> first | omega | exact ba_eqL (List.le_antisymm h1.2 h2.2)
theorem range_names (U : List (ByteArray × Int)) : (List.range U.length).map (nmD U) = U.map (·.1) := by
  refine List.ext_getElem (by simp) (fun i h1 h2 => ?_)
  rw [List.getElem_map, List.getElem_range, List.getElem_map]
  exact nmD_at (by simpa using h2)
theorem Alk.lastD {c : CrV} {r : RcV} (h : Alk c r) {i : Nat} (hi : i < r.all.length) : lastD r.all i = c.last (nmD r.all i) := by
  rw [lastD_at hi, nmD_at hi]
  exact h.last _ (List.getElem_mem hi)
theorem Alk.dueB {c : CrV} {r : RcV} (h : Alk c r) (ho : CrOk c) {t : Int} (ht : 0 ≤ t) {i : Nat} (hi : i < r.all.length) : dueB r.every t r.all i = decide (dueT c.every (c.last (nmD r.all i)) ≤ t) := by
  unfold Go.Proofs.YtnflhjagmngimaaGreatDoor.dueB dueT
  rw [h.lastD hi, h.every]
  by_cases g : c.last (nmD r.all i) < 0
  · rw [if_pos g, decide_eq_true g, decide_eq_true ht]; rfl
  · rw [if_neg g, decide_eq_false g, Bool.false_or]
    exact decide_eq_decide.2 (by omega)
/-- The due names of both are the same, in the same order. -/
theorem Alk.dues {c : CrV} {r : RcV} (h : Alk c r) (ho : CrOk c) {t : Int} (ht : 0 ≤ t) {D : List Nat} (hD : D.Perm ((List.range r.all.length).filter (Go.Proofs.YtnflhjagmngimaaGreatDoor.dueB r.every t r.all))) (hb : D.Pairwise (befD r.all))
    {U : List ByteArray} (hU : U.Perm c.all) (hp : U.Pairwise (NamesP c.last)) : D.map (nmD r.all) = U.filter (fun x => decide (dueT c.every (c.last x) ≤ t)) := by
  have hlt : ∀ i ∈ D, i < r.all.length := fun i hi => List.mem_range.1 (List.mem_filter.1 (hD.mem_iff.1 hi)).1
  have h1 : (D.map (nmD r.all)).Perm (U.filter (fun x => decide (dueT c.every (c.last x) ≤ t))) := by
    refine (hD.map _).trans ?_
    have e1 : (List.range r.all.length).filter (Go.Proofs.YtnflhjagmngimaaGreatDoor.dueB r.every t r.all) = (List.range r.all.length).filter (fun i => decide (dueT c.every (c.last (nmD r.all i)) ≤ t)) :=
      List.filter_congr (fun i hi => h.dueB ho ht (List.mem_range.1 hi))
    rw [e1]
    have e2 : ((List.range r.all.length).filter (fun i => decide (dueT c.every (c.last (nmD r.all i)) ≤ t))).map (nmD r.all) = ((List.range r.all.length).map (nmD r.all)).filter (fun x => decide (dueT c.every (c.last x) ≤ t)) := by
      rw [List.filter_map]
      rfl
    rw [e2, range_names]
    exact (h.perm.trans hU.symm).filter _
  refine List.Perm.eq_of_pairwise (le := NamesP c.last) (fun a b _ _ q1 q2 => namesP_anti q1 q2) ?_ (hp.sublist List.filter_sublist) h1
  rw [List.pairwise_map]
  refine hb.imp_of_mem (fun {a b} ha hb q => ?_)
  unfold befD at q
  rw [h.lastD (hlt a ha), h.lastD (hlt b hb)] at q
  rw [namesP_iff]
  rcases q with q | ⟨q1, q2⟩
  · exact .inl q
  · refine .inr ⟨q1, ?_⟩
    have := List.pairwise_iff_getElem.1 h.asc a b (hlt a ha) (hlt b hb) q2
    unfold ascP at this
    rw [lessB_iff] at this
    rw [nmD_at (hlt a ha), nmD_at (hlt b hb)]
    exact List.le_of_lt this
/-- In the order of waiting the due names stand ahead. -/
theorem due_ahead {every t : Int} {last : ByteArray → Int} (he : 0 ≤ every) : ∀ {U : List ByteArray}, U.Pairwise (fun x y => last x ≤ last y) → ∀ (T rest : List ByteArray), U = T ++ rest → (∀ x ∈ T, dueT every (last x) ≤ t) → (∀ s r2, rest = s :: r2 → t < dueT every (last s)) → U.filter (fun x => decide (dueT every (last x) ≤ t)) = T := by
  intro U hp T rest hU hT hs
  subst hU
  rw [List.filter_append]
  have h1 : T.filter (fun x => decide (dueT every (last x) ≤ t)) = T := List.filter_eq_self.2 (fun x hx => decide_eq_true (hT x hx))
  have h2 : rest.filter (fun x => decide (dueT every (last x) ≤ t)) = [] := by
    rw [List.filter_eq_nil_iff]
    intro x hx q
    rw [decide_eq_true_eq] at q
    cases rest with
    | nil => cases hx
    | cons s r2 =>
      have h3 := hs s r2 rfl
      rcases List.mem_cons.1 hx with rfl | hx
      · omega
      · have h4 := (List.pairwise_append.1 hp).2.1
        have h5 := dueT_mono he ((List.pairwise_cons.1 h4).1 x hx)
        omega
  rw [h1, h2, List.append_nil]
/-- What both tell: the same names. -/
theorem Alk.told {c : CrV} {r : RcV} (h : Alk c r) (ho : CrOk c) {t : Int} (ht : 0 ≤ t) {D : List Nat} (hD : D.Perm ((List.range r.all.length).filter (Go.Proofs.YtnflhjagmngimaaGreatDoor.dueB r.every t r.all))) (hb : D.Pairwise (befD r.all))
    {U T rest N : List ByteArray} (hU : U = T ++ rest) (hp : U.Perm c.all) (hw : U.Pairwise (NamesP c.last)) (hN : N.Perm T) (hv : T = [] ∨ validM ⟨c.port, N, c.cookie⟩ = true) (hd : ∀ x ∈ T, dueT c.every (c.last x) ≤ t)
    (hs : ∀ s r2, rest = s :: r2 → t < dueT c.every (c.last s) ∨ validM ⟨c.port, sortB (N ++ [s]), c.cookie⟩ = false) : (D.take 20).map (nmD r.all) = T := by
  have hev := ho.every
  have hdues := h.dues ho ht hD hb hp hw
  have hwl : U.Pairwise (fun x y => c.last x ≤ c.last y) := hw.imp (fun q => befN_last q)
  rw [List.map_take, hdues]
  have hT20 : T.length ≤ 20 := by
    rcases hv with rfl | hv
    · simp
    · have := hN.length_eq
      obtain ⟨-, q, -⟩ := valid_parts hv
      have q2 : N.length ≤ 20 := (namesB_iff.1 q).2.2
      omega
  cases rest with
  | nil =>
    rw [due_ahead (by omega) hwl T [] hU hd (fun s r2 q => by cases q), List.take_of_length_le hT20]
  | cons s r2 =>
    rcases hs s r2 rfl with q | q
    · rw [due_ahead (by omega) hwl T (s :: r2) hU hd (fun s' r3 e => by cases e; exact q), List.take_of_length_le hT20]
    · by_cases hds : t < dueT c.every (c.last s)
      · rw [due_ahead (by omega) hwl T (s :: r2) hU hd (fun s' r3 e => by cases e; exact hds), List.take_of_length_le hT20]
      · have hUn : U.Nodup := hp.symm.nodup h.nod
        have hTs : (T ++ [s]).Nodup := by
          rw [hU] at hUn
          exact hUn.sublist ((List.Sublist.refl T).append ((List.nil_sublist r2).cons_cons s))
        have hNs : (N ++ [s]).Perm (T ++ [s]) := hN.append_right [s]
        have hT : T.length = 20 := by
          refine Decidable.byContradiction fun g => ?_
          have h2 : validM ⟨c.port, sortB (N ++ [s]), c.cookie⟩ = true := by
            refine valid_sort ho (hNs.symm.nodup hTs) (fun k hk => ?_) (by simp) (by rw [List.length_append, hN.length_eq]; simp; omega)
            refine ho.size k (hp.mem_iff.1 ?_)
            rw [hU]
            have := hNs.mem_iff.1 hk
            rcases List.mem_append.1 this with h3 | h3
            · exact List.mem_append_left _ h3
            · rw [List.mem_singleton.1 h3]; simp
          rw [h2] at q
          cases q
        rw [hU, List.filter_append, List.filter_eq_self.2 (fun x hx => decide_eq_true (hd x hx)), List.take_append_of_le_length (by omega), List.take_of_length_le (by omega)]
theorem put_all {U : List (ByteArray × Int)} {t : Int} : ∀ (T : List Nat) (V : List (ByteArray × Int)), (T.foldl (putT t) V).length = V.length ∧ ∀ (j : Nat) (hj : j < V.length), (T.foldl (putT t) V)[j]? = some (V[j].1, if j ∈ T then t else V[j].2)
  | [], V => ⟨rfl, fun j hj => by simp [List.getElem?_eq_getElem hj]⟩
  | i :: T, V => by
    have hl : (putT t V i).length = V.length := by unfold putT; rw [List.length_set]
    obtain ⟨h1, h2⟩ := put_all (U := U) T (putT t V i)
    rw [List.foldl_cons]
    refine ⟨by rw [h1, hl], fun j hj => ?_⟩
    rw [h2 j (by rw [hl]; exact hj)]
    have e : (putT t V i)[j]'(by rw [hl]; exact hj) = if i = j then (V[j].1, t) else V[j] := by
      unfold putT
      rw [List.getElem_set]
      split
      · next q => subst q; rw [List.getD_eq_getElem?_getD, List.getElem?_eq_getElem hj]; rfl
      · rfl
    rw [e]
    by_cases g : i = j
    · subst g; simp
    · rw [if_neg g]
      have : (j ∈ i :: T) ↔ j ∈ T := by
        rw [List.mem_cons]
        exact ⟨fun q => q.resolve_left (fun q2 => g q2.symm), .inr⟩
      simp only [this]
/-- Behind telling both are alike. -/
theorem Alk.tell {c : CrV} {r : RcV} (h : Alk c r) {t : Int} (ht : 0 ≤ t) {D : List Nat} (hlt : ∀ i ∈ D, i < r.all.length) {N : List ByteArray} (hN : ∀ k, k ∈ N ↔ k ∈ D.map (nmD r.all)) : Alk (c.tellC t N) (r.tellC t D) := by
  obtain ⟨hl, hp⟩ := put_all (U := r.all) (t := t) D r.all
  have hall : (r.tellC t D).all = D.foldl (putT t) r.all := rfl
  have hget : ∀ (j : Nat) (hj : j < r.all.length) (hj2 : j < (r.tellC t D).all.length), (r.tellC t D).all[j] = (r.all[j].1, if j ∈ D then t else r.all[j].2) := by
    intro j hj hj2
    have := hp j hj
    rw [← hall, List.getElem?_eq_getElem hj2] at this
    exact Option.some.inj this
  have hlen : (r.tellC t D).all.length = r.all.length := by rw [hall, hl]
  have hmapn : (r.tellC t D).all.map (·.1) = r.all.map (·.1) := by
    refine List.ext_getElem (by rw [List.length_map, List.length_map, hlen]) (fun j h1 h2 => ?_)
    rw [List.getElem_map, List.getElem_map]
    rw [List.length_map] at h1 h2
    rw [hget j h2 h1]
  have hinj : ∀ (j : Nat) (hj : j < r.all.length), j ∈ D ↔ r.all[j].1 ∈ N := by
    intro j hj
    rw [hN, List.mem_map]
    constructor
    · intro q; exact ⟨j, q, nmD_at hj⟩
    · rintro ⟨i, hi, e⟩
      have hil := hlt i hi
      rw [nmD_at hil] at e
      have : i = j := by
        exact nd_inj (asc_nodup h.asc) (by simpa using hil) (by simpa using hj) (by simpa using e)
      rw [← this]; exact hi
  refine ⟨h.cook, h.port, h.every, rfl, .inl ⟨rfl, rfl, ht⟩, ?_, fun k => by rw [hmapn]; exact h.names k, h.nod, fun x hx => ?_, h.cnt, h.mins⟩
  · rw [List.pairwise_iff_getElem]
    intro i j hi hj hij
    rw [hget i (by rw [← hlen]; exact hi) hi, hget j (by rw [← hlen]; exact hj) hj]
    exact List.pairwise_iff_getElem.1 h.asc i j (by rw [← hlen]; exact hi) (by rw [← hlen]; exact hj) hij
  · obtain ⟨j, hj, rfl⟩ := List.getElem_of_mem hx
    have hjr : j < r.all.length := by rw [← hlen]; exact hj
    rw [hget j hjr hj]
    show _ = (N.foldl (fun f x => upd f x t) c.last) r.all[j].1
    obtain ⟨f1, f2⟩ := fold_upd t r.all[j].1 N c.last
    by_cases g : j ∈ D
    · rw [f1 ((hinj j hjr).1 g)]
      show (if j ∈ D then t else r.all[j].2) = t
      rw [if_pos g]
    · rw [f2 (fun q => g ((hinj j hjr).2 q))]
      show (if j ∈ D then t else r.all[j].2) = _
      rw [if_neg g]
      exact h.last _ (List.getElem_mem hjr)
end Go.Proofs.YtnflhjagmngimaaGreatDoor
