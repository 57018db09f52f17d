/-
  Several texts in one, in their build order. The walk of Tell (the reference's crier). Conditions: the crier lies as told; the library's table is laid.
-/
import Derived.Test.YtnflhjagmngimaaGreatDoorM33
import Derived.Test.YtnflhjagmngimaaGreatDoorM34
import Derived.Test.YtnflhjagmngimaaGreatDoorM18
namespace Go.Proofs.YtnflhjagmngimaaGreatDoor
set_option linter.unusedSimpArgs false
set_option linter.unusedVariables false
open Go.RowKit Go.Shelf

def putT (t : Int) (U : List (ByteArray × Int)) (i : Nat) : List (ByteArray × Int) := U.set i ((U.getD i (⟨#[]⟩, -1)).1, t)
def RcV.tellC (r : RcV) (t : Int) (T : List Nat) : RcV := { r with all := T.foldl (putT t) r.all, now := t, sent := t, ever := true }
def nmD (U : List (ByteArray × Int)) (i : Nat) : ByteArray := (U.getD i (⟨#[]⟩, -1)).1
theorem nmD_at {U : List (ByteArray × Int)} {i : Nat} (h : i < U.length) : nmD U i = U[i].1 := by unfold nmD; rw [List.getD_eq_getElem?_getD, List.getElem?_eq_getElem h]; rfl
theorem mem_tw {α : Type} {p : α → Bool} : ∀ {l : List α} {x : α}, x ∈ l.takeWhile p → p x = true
  | [], _, h => by cases h
  | y :: l, x, h => by
    by_cases g : p y = true
    · rw [List.takeWhile_cons_of_pos g] at h
      rcases List.mem_cons.1 h with rfl | h
      · exact g
      · exact mem_tw h
    · rw [List.takeWhile_cons_of_neg g] at h
      cases h
/-- Where a name is put. -/
theorem ordF_done (n : ByteArray) : ∀ (l o : List ByteArray), l.foldl (ordStep n) (o, true) = (o ++ l, true)
  | [], o => by simp
  | s :: l, o => by
    have e : ordStep n (o, true) s = (o ++ [s], true) := by unfold ordStep; rw [if_neg (by simp)]
    rw [List.foldl_cons, e, ordF_done n l]
    simp
def leN (n s : ByteArray) : Bool := !(Op.bytesLess n.toList s.toList)
theorem ordB_split (n : ByteArray) (l : List ByteArray) : ordB l n = l.takeWhile (leN n) ++ n :: l.dropWhile (leN n) := by
  have h : ∀ (l o : List ByteArray), (if (l.foldl (ordStep n) (o, false)).2 = false then (l.foldl (ordStep n) (o, false)).1 ++ [n] else (l.foldl (ordStep n) (o, false)).1) = o ++ (l.takeWhile (leN n) ++ n :: l.dropWhile (leN n)) := by
    intro l
    induction l with
    | nil => intro o; simp
    | cons s l ih =>
      intro o
      by_cases hc : Op.bytesLess n.toList s.toList = true
      · have e : ordStep n (o, false) s = (o ++ [n] ++ [s], true) := by unfold ordStep; rw [if_pos ⟨rfl, hc⟩]
        have e2 : leN n s = false := by unfold leN; rw [hc]; rfl
        rw [List.foldl_cons, e, ordF_done]
        simp [e2]
      · have e : ordStep n (o, false) s = (o ++ [s], false) := by unfold ordStep; rw [if_neg (fun q => hc q.2)]
        have e2 : leN n s = true := by unfold leN; rw [Bool.not_eq_true] at hc; rw [hc]; rfl
        rw [List.foldl_cons, e, ih]
        simp [e2]
  exact h l []
def ltN (x y : ByteArray) : Prop := x.data.toList < y.data.toList
theorem less_ltN {a b : ByteArray} : Op.bytesLess a.toList b.toList = true ↔ ltN a b := by
  rw [ByteArray.toList_eq, ByteArray.toList_eq, bless_lt, decide_eq_true_eq]; rfl
theorem ordB_perm (n : ByteArray) (l : List ByteArray) : (ordB l n).Perm (n :: l) := by
  rw [ordB_split]
  conv => rhs; rw [← List.takeWhile_append_dropWhile (p := leN n) (l := l)]
  exact List.perm_middle
theorem ordB_asc {n : ByteArray} {l : List ByteArray} (h : l.Pairwise ltN) (hn : n ∉ l) : (ordB l n).Pairwise ltN := by
  rw [ordB_split]
  have hsp : l.takeWhile (leN n) ++ l.dropWhile (leN n) = l := List.takeWhile_append_dropWhile
  have hp := h
  rw [← hsp, List.pairwise_append] at hp
  obtain ⟨p1, p2, p3⟩ := hp
  have hl : ∀ x ∈ l.takeWhile (leN n), ltN x n := fun x hx => by
    have h1 := mem_tw hx
    have h2 : ¬ ltN n x := fun q => by unfold leN at h1; rw [less_ltN.2 q] at h1; cases h1
    rcases Decidable.em (x.data.toList < n.data.toList) with q | q
    · exact q
    · refine absurd ?_ hn
      have e := List.le_antisymm (List.not_lt.1 q) (List.not_lt.1 h2)
      have : n = x := ba_eq (Array.toList_inj.1 e)
      rw [this, ← hsp]
      exact List.mem_append_left _ hx
  have hr : ∀ y ∈ l.dropWhile (leN n), ltN n y := by
    intro y hy
    cases hd : l.dropWhile (leN n) with
    | nil => rw [hd] at hy; cases hy
    | cons z D =>
      have hz : leN n z = false := by
        have := List.head_dropWhile_not (p := leN n) (l := l) (by rw [hd]; simp)
        simpa [hd] using this
      have hnz : ltN n z := less_ltN.1 (by unfold leN at hz; simpa using hz)
      rw [hd] at hy p2
      rcases List.mem_cons.1 hy with rfl | hy
      · exact hnz
      · exact List.lt_trans hnz ((List.pairwise_cons.1 p2).1 y hy)
  rw [List.pairwise_append]
  refine ⟨p1, List.pairwise_cons.2 ⟨hr, p2⟩, fun a ha b hb => ?_⟩
  rcases List.mem_cons.1 hb with rfl | hb
  · exact hl a ha
  · exact p3 a ha b hb
theorem ltN_ne {x y : ByteArray} (h : ltN x y) : x ≠ y := fun q => by subst q; exact List.lt_irrefl _ h
theorem asc_valid {port : Int} {cook : ByteArray} (hp : 1 ≤ port ∧ port ≤ 65535) (hc : cookieOk cook = true) {N : List ByteArray} (h : N.Pairwise ltN) (hz : ∀ k ∈ N, k.size = 20) (h1 : 1 ≤ N.length) (h2 : N.length ≤ 20) : validM ⟨port, N, cook⟩ = true :=
  valid_of hp (names_sorted (h.imp (fun q => by simp only [leY, decide_eq_true_eq]; exact List.le_of_lt q)) (h.imp (fun q => ltN_ne q)) hz h1 h2) hc
theorem nd_inj {α : Type} {l : List α} (h : l.Nodup) {i j : Nat} (hi : i < l.length) (hj : j < l.length) (e : l[i] = l[j]) : i = j := by
  have hn := List.pairwise_iff_getElem.1 h
  rcases Nat.lt_trichotomy i j with q | q | q
  · exact absurd e (hn i j hi hj q)
  · exact q
  · exact absurd e.symm (hn j i hj hi q)
/-- What Tell has so far. -/
structure RtN (r : RcV) (D : List Nat) (k : Nat) (N : List ByteArray) : Prop where
  perm : N.Perm ((D.take k).map (nmD r.all))
  asc : N.Pairwise ltN
theorem RtN.next {r : RcV} (ho : RcOk r) {D : List Nat} (hn : D.Nodup) (hD : ∀ i ∈ D, i < r.all.length) {k : Nat} {N : List ByteArray} (h : RtN r D k N) {i : Nat} (hi : D[k]? = some i) : RtN r D (k + 1) (ordB N (nmD r.all i)) := by
  have hk := (List.getElem?_eq_some_iff.1 hi).1
  have he := (List.getElem?_eq_some_iff.1 hi).2
  have hilt := hD i (List.mem_of_getElem? hi)
  refine ⟨(ordB_perm _ _).trans ?_, ordB_asc h.asc (fun q => ?_)⟩
  · rw [List.take_succ_eq_append_getElem hk, List.map_append, he]
    refine ((List.Perm.cons _ h.perm)).trans ?_
    simpa using (List.perm_append_comm (l₁ := [nmD r.all i]) (l₂ := (D.take k).map (nmD r.all)))
  · obtain ⟨j, hj, e⟩ := List.mem_map.1 (h.perm.mem_iff.1 q)
    have hjD := List.mem_of_mem_take hj
    have hjl := hD j hjD
    rw [nmD_at hjl, nmD_at hilt] at e
    have hij : j = i := nd_inj ho.names (by simpa using hjl) (by simpa using hilt) (by simpa using e)
    subst hij
    obtain ⟨m, hm, hmj⟩ := List.getElem_of_mem hj
    rw [List.length_take] at hm
    rw [List.getElem_take] at hmj
    have := nd_inj hn (show m < D.length by omega) hk (by rw [hmj, he])
    omega
theorem RtN.size {r : RcV} (ho : RcOk r) {D : List Nat} (hD : ∀ i ∈ D, i < r.all.length) {k : Nat} {N : List ByteArray} (h : RtN r D k N) : ∀ s ∈ N, s.size = 20 := by
  intro s hs
  obtain ⟨i, hi, rfl⟩ := List.mem_map.1 (h.perm.mem_iff.1 hs)
  have := hD i (List.mem_of_mem_take hi)
  rw [nmD_at this]
  exact ho.size _ (List.getElem_mem this)
theorem RtN.len {r : RcV} {D : List Nat} {k : Nat} {N : List ByteArray} (h : RtN r D k N) (hk : k ≤ D.length) : N.length = k := by
  have := h.perm.length_eq
  rw [List.length_map, List.length_take] at this
  omega
/-- What is asked behind Tell, in time. -/
def RcTell (R : Nat) (aa ah : Option Addr) (ca ch : Nat) (r : RcV) (t : Int) (w : World) (e : Ending) (w' : World) : Prop :=
  ∃ D, D.Perm ((List.range r.all.length).filter (dueB r.every t r.all)) ∧ D.Pairwise (befD r.all) ∧
    (((D = [] ∨ (r.ever = true ∧ t - r.sent < 1000)) ∧ e = .returned (.tuple #[.string ⟨#[]⟩, .int .i64 8]) ∧ RcAt w' R aa ah ca ch r ∧ Mod (· = R) w w') ∨
     (D ≠ [] ∧ ¬ (r.ever = true ∧ t - r.sent < 1000) ∧ ∃ N, N.Perm ((D.take 20).map (nmD r.all)) ∧ validM ⟨r.port, N, r.cook⟩ = true ∧ e = .returned (.tuple #[.string (mkB (writtenL ⟨r.port, N, r.cook⟩)), .int .i64 0]) ∧
       RcAt w' R aa ah ca ch (r.tellC t (D.take 20)) ∧ Mod (fun k => k = R ∨ ∃ x, aa = some x ∧ x.block = k) w w'))
set_option maxRecDepth 100000 in
set_option maxHeartbeats 2000000 in
theorem rTell_late (R : Nat) (aa ah : Option Addr) (ca ch : Nat) (r : RcV) (t : Int) (w : World) (h : RcAt w R aa ah ca ch r) (hno : r.atE t ≠ 0) :
    Calls Tryz.prog 27 #[.pointer (some ⟨R, 0, none⟩), .int .i64 t] w fun e w' => e = .returned (.tuple #[.string ⟨#[]⟩, .int .i64 (r.atE t)]) ∧ w = w' := by
  have HQ := hid (rat_no R aa ah ca ch r t w h hno)
  have c5 : w.cell? ⟨R, 5, none⟩ = some (.int .i64 r.now) := h.row.cellv 5 rfl
  have cl := h.row.lt
  obtain ⟨E, hE⟩ : ∃ E, E = r.atE t := ⟨_, rfl⟩
  rw [← hE] at HQ hno ⊢
  have e1 : (E == 0) = false := by rw [beq_eq_false_iff_ne]; exact hno
  have e2 : (E != 0) = true := by rw [bne, e1]; rfl
  clear h hno hE
  go_enter Tryz.func27, Tryz.ntmps27
  go_wp2_with fail
  refine HQ.out.mono ?_
  rintro e w3 ⟨rfl, rfl⟩
  go_wp2_with fail
  go_ret2
  exact ⟨rfl, rfl⟩
theorem putT_len (t : Int) : ∀ (T : List Nat) (U : List (ByteArray × Int)), (T.foldl (putT t) U).length = U.length
  | [], U => rfl
  | i :: T, U => by rw [List.foldl_cons, putT_len t T]; unfold putT; rw [List.length_set]
theorem putT_next {t : Int} {T : List Nat} {k i : Nat} (hk : T[k]? = some i) (U : List (ByteArray × Int)) : (T.take (k + 1)).foldl (putT t) U = putT t ((T.take k).foldl (putT t) U) i := by
  have h1 := (List.getElem?_eq_some_iff.1 hk).1
  have h2 := (List.getElem?_eq_some_iff.1 hk).2
  rw [List.take_succ_eq_append_getElem h1, List.foldl_append, h2]
  rfl
/-- What lies about the loop of Tell: N are the names so far (a slice na of capacity nc), in the message at MB; k numbers are noted, in tv. -/
structure RtE (R : Nat) (aa ah : Option Addr) (ca ch : Nat) (r : RcV) (D : List Nat) (dv : Option Addr) (dc MB base : Nat) (w0 : World) (k : Nat) (N : List ByteArray) (na : Option Addr) (nc : Nat) (tv : Value) (W : World) : Prop where
  cr : RcAt W R aa ah ca ch r
  dl : OwnI W base (.slice dv D.length dc) D
  msg : Blk W MB #[.int .i64 r.port, .slice na N.length nc, .string r.cook] 34
  ns : StrsAt W na nc N
  nb : ∀ x, na = some x → MB < x.block
  tl : OwnI W (MB + 1) tv (D.take k)
  so : RtN r D k N
  mod : New w0 W

theorem RtE.new {R : Nat} {aa ah : Option Addr} {ca ch : Nat} {r : RcV} {D : List Nat} {dv : Option Addr} {dc MB base : Nat} {w0 : World} {k : Nat} {N : List ByteArray} {na : Option Addr} {nc : Nat} {tv : Value} {W W' : World} (h : RtE R aa ah ca ch r D dv dc MB base w0 k N na nc tv W) (n : New W W') : RtE R aa ah ca ch r D dv dc MB base w0 k N na nc tv W' :=
  ⟨h.cr.new n, ownsP_new h.dl n, New.blk n h.msg, h.ns.new n, h.nb, ownsP_new h.tl n, h.so, Mod.trans h.mod n⟩
set_option maxRecDepth 100000 in
set_option maxHeartbeats 16000000 in
theorem rTell_any (R : Nat) (aa ah : Option Addr) (ca ch : Nat) (r : RcV) (t : Int) (w : World) (h : RcAt w R aa ah ca ch r) (ho : RcOk r) (hat : r.atE t = 0) (htab : ∀ W, Mod (fun k => k = R ∨ ∃ x, aa = some x ∧ x.block = k) w W → Tab W) :
    Calls Tryz.prog 27 #[.pointer (some ⟨R, 0, none⟩), .int .i64 t] w (RcTell R aa ah ca ch r t w) := by
  have c5 : w.cell? ⟨R, 5, none⟩ = some (.int .i64 r.now) := h.row.cellv 5 rfl
  have cl := h.row.lt
  obtain ⟨t0, t1⟩ := ratE_zero hat
  have hnow := ho.now
  have HQ := hid (rat_go R aa ah ca ch r t w h hat)
  have HO : Hid (RcOk { r with now := t }) := hid ⟨⟨by show 0 ≤ t; omega, t1⟩, ho.cook, ho.port, ho.every, ho.sent, ho.few, ho.size, ho.last, ho.names, ho.many⟩
  have HTB := hid htab
  have hfew := ho.few; have hev := ho.every; have hsent := ho.sent
  have hRl : R < w.heap.size := cl
  clear h ho hat htab
  obtain ⟨q, hq⟩ : ∃ q : RcV, q = { r with now := t } := ⟨_, rfl⟩
  have HQ3 := hid hq
  have hqa : q.all = r.all := by rw [hq]
  have hqe : q.every = r.every := by rw [hq]
  have hqs : q.sent = r.sent := by rw [hq]
  have hqv : q.ever = r.ever := by rw [hq]
  have hqc : q.cook = r.cook := by rw [hq]
  have hqp : q.port = r.port := by rw [hq]
  have HQA := hid hqa; have HQE := hid hqe; have HQS := hid hqs; have HQV := hid hqv; have HQC := hid hqc; have HQP := hid hqp
  rw [← hq] at HO HQ
  clear hqa hqe hqs hqv hqc hqp hq
  go_enter Tryz.func27, Tryz.ntmps27
  go_wp2_with fail
  refine HQ.out.mono ?_
  rintro e w3 ⟨rfl, r3, m3⟩
  have R3 := hid r3; have M3 := hid m3
  have HDU := hid (rdue_any R aa ah ca ch q t w3 r3 HO.out (by omega))
  clear r3 m3 c5 cl
  go_wp2_with fail
  refine HDU.out.mono ?_
  rintro e w4 ⟨v, D, rfl, hown, hpm, hpw, n4⟩
  have HOW := hid hown; have HPM := hid hpm; have HPW := hid hpw; have N4 := hid n4
  have R4 := hid (R3.out.new n4)
  obtain ⟨dv, dc, rfl⟩ : ∃ dv dc, v = .slice dv D.length dc := by
    rcases hown.2 with ⟨e, hz⟩ | ⟨g9, cap9, cur9, e, -⟩
    · exact ⟨none, 0, by rw [e, hz]⟩
    · exact ⟨_, _, e⟩
  have hDl : D.length ≤ 200 := by
    have h1 := hpm.length_eq
    have h2 := List.length_filter_le (dueB q.every t q.all) (List.range q.all.length)
    rw [List.length_range, HQA.out] at h2
    rw [HQA.out] at h1
    omega
  have HPM2 : Hid (D.Perm ((List.range r.all.length).filter (dueB r.every t r.all))) := hid (by rw [HQA.out, HQE.out] at hpm; exact hpm)
  have HPW2 : Hid (D.Pairwise (befD r.all)) := hid (by rw [HQA.out] at hpw; exact hpw)
  have HDL : Hid (∀ i ∈ D, i < q.all.length) := hid (fun i hi => List.mem_range.1 (List.mem_filter.1 (hpm.mem_iff.1 hi)).1)
  have HND : Hid D.Nodup := hid (hpm.symm.nodup (List.nodup_range.sublist List.filter_sublist))
  clear hown hpm hpw n4
  have q7 : w4.cell? ⟨R, 7, none⟩ = some (.bool q.ever) := R4.out.row.cellv 7 rfl
  have q6 : w4.cell? ⟨R, 6, none⟩ = some (.int .i64 q.sent) := R4.out.row.cellv 6 rfl
  have q5 : w4.cell? ⟨R, 5, none⟩ = some (.int .i64 q.now) := R4.out.row.cellv 5 rfl
  have qf := R4.out.row.frz 5; have ql := R4.out.row.lt
  have M4 : Hid (Mod (· = R) w w4) := hid (M3.out.trans (New.mod N4.out))
  have hws : IntKind.i64.wrap (t - q.sent) = t - q.sent := by rw [IntKind.wrap_i64, HQS.out]; omega
  by_cases g0 : D = []
  · subst g0
    have e0 : ((([] : List Nat).length : Int) == 0) = true := rfl
    go_wp2_with fail
    go_ret2
    exact ⟨_, HPM2.out, HPW2.out, .inl ⟨.inl rfl, rfl, by
      have := R4.out.time r.now
      rw [HQ3.out] at this
      exact this, Mod.set M4.out _ _ (.inl rfl)⟩⟩
  · have e0 : ((D.length : Int) == 0) = false := by
      rw [beq_eq_false_iff_ne]
      intro z
      exact g0 (List.eq_nil_of_length_eq_zero (by omega))
    cases hev2 : q.ever with
    | true =>
      rw [hev2] at q7
      by_cases gs : t - q.sent < 1000
      · have e2 : decide (t - q.sent < 1000) = true := decide_eq_true gs
        go_wp2_with fail
        go_ret2
        exact ⟨_, HPM2.out, HPW2.out, .inl ⟨.inr ⟨by rw [← HQV.out]; exact hev2, by rw [← HQS.out]; exact gs⟩, rfl, by
          have := R4.out.time r.now
          rw [HQ3.out] at this
          exact this, Mod.set M4.out _ _ (.inl rfl)⟩⟩
      · have e2 : decide (t - q.sent < 1000) = false := decide_eq_false gs
        have HNE : Hid (¬ (r.ever = true ∧ t - r.sent < 1000)) := hid (fun z => gs (by rw [HQS.out]; exact z.2))
        go_wp2_with fail
        clear q5 q6 q7 qf
        have c0 : w4.cell? ⟨R, 0, none⟩ = some (.string q.cook) := R4.out.row.cellv 0 rfl
        have c1 : w4.cell? ⟨R, 1, none⟩ = some (.int .i64 q.port) := R4.out.row.cellv 1 rfl
        refine wp_region_held_drew (S := (fun w' => w'.cell? ⟨R, 0, none⟩ = some (.string q.cook) ∧ w'.cell? ⟨R, 1, none⟩ = some (.int .i64 q.port))) (by kernel_rfl) ⟨c0, c1⟩ (fun hHeld => ?_)
        refine tk (v := ?_) 0 ?_ ?_
        rotate_left
        · intro w hSw
          (try dsimp only at hSw)
          first | (go_simp; done) | (go_simp; with_reducible rfl) | with_reducible rfl
        simp only [Act.put, List.setIfInBounds_toArray, List.set_cons_zero, List.set_cons_succ]
        refine tk (v := ?_) 1 ?_ ?_
        rotate_left
        · intro w hSw
          (try dsimp only at hSw)
          first | (go_simp; done) | (go_simp; with_reducible rfl) | with_reducible rfl
        simp only [Act.put, List.setIfInBounds_toArray, List.set_cons_zero, List.set_cons_succ]
        refine tk (v := ?_) 2 ?_ ?_
        rotate_left
        · intro w hSw
          (try dsimp only at hSw)
          first | (go_simp; done) | (go_simp; with_reducible rfl) | with_reducible rfl
        simp only [Act.put, List.setIfInBounds_toArray, List.set_cons_zero, List.set_cons_succ]
        refine tk (v := ?_) 3 ?_ ?_
        rotate_left
        · intro w hSw
          (try dsimp only at hSw)
          first | (go_simp; done) | (go_simp; with_reducible rfl) | with_reducible rfl
        simp only [Act.put, List.setIfInBounds_toArray, List.set_cons_zero, List.set_cons_succ]
        refine tk (v := ?_) 4 ?_ ?_
        rotate_left
        · intro w hSw
          (try dsimp only at hSw)
          first | (go_simp; done) | (go_simp; with_reducible rfl) | with_reducible rfl
        simp only [Act.put, List.setIfInBounds_toArray, List.set_cons_zero, List.set_cons_succ]
        refine tk (v := ?_) 5 ?_ ?_
        rotate_left
        · intro w hSw
          (try dsimp only at hSw)
          first | (go_simp; done) | (go_simp; with_reducible rfl) | with_reducible rfl
        simp only [Act.put, List.setIfInBounds_toArray, List.set_cons_zero, List.set_cons_succ]
        refine tk (v := ?_) 6 ?_ ?_
        rotate_left
        · intro w hSw
          (try dsimp only at hSw)
          first | (go_simp; done) | (go_simp; with_reducible rfl) | with_reducible rfl
        simp only [Act.put, List.setIfInBounds_toArray, List.set_cons_zero, List.set_cons_succ]
        refine tk (v := ?_) 7 ?_ ?_
        rotate_left
        · intro w hSw
          (try dsimp only at hSw)
          first | (go_simp; done) | (go_simp; with_reducible rfl) | with_reducible rfl
        simp only [Act.put, List.setIfInBounds_toArray, List.set_cons_zero, List.set_cons_succ]
        refine tk (v := ?_) 8 ?_ ?_
        rotate_left
        · intro w hSw
          (try dsimp only at hSw)
          first | (go_simp; done) | (go_simp; with_reducible rfl) | with_reducible rfl
        simp only [Act.put, List.setIfInBounds_toArray, List.set_cons_zero, List.set_cons_succ]
        have nA : ∀ o, New w4 (w4.drew.alloc o) := fun o => ((Mod.refl _ w4).drew).alloc o
        refine wpAnyH_ready (rs := [9]) (by kernel_rfl) (by simp) ?_
        refine AllReadyH.cons (by simp only [List.getElem?_toArray, List.getElem?_cons_succ, List.getElem?_cons_zero]; rfl) (fun K hK => ?_) AllReadyH.nil
        go_simp
        refine hK.out _ _ ⟨New.cellv (nA _) c0, New.cellv (nA _) c1⟩ (fun hHeld9 => ?_)
        clear hK K
        try simp only [Act.put, List.setIfInBounds_toArray, List.set_cons_zero, List.set_cons_succ]
        have B0 := Blk.newAt (w := w4) (cs := #[.int .i64 0, .slice none 0 0, .string ⟨#[]⟩]) (t := 34) rfl
        have m0 := B0.cellv 0 rfl; have m1 := B0.cellv 1 rfl; have m2 := B0.cellv 2 rfl; have ml := B0.lt
        have e0 := B0.frz 0; have e1 := B0.frz 1; have e2 := B0.frz 2
        refine wpAnyH_ready (rs := [10]) (by kernel_rfl) (by simp) ?_
        refine AllReadyH.cons (by simp only [List.getElem?_toArray, List.getElem?_cons_succ, List.getElem?_cons_zero]; rfl) (fun K hK => ?_) AllReadyH.nil
        go_simp
        refine hK.out _ _ ⟨New.cellv (nA (.cells #[.int .i64 q.port, .slice none 0 0, .string q.cook] 34)) c0, New.cellv (nA (.cells #[.int .i64 q.port, .slice none 0 0, .string q.cook] 34)) c1⟩ (fun hHeld10 => ?_)
        clear hK K m0 m1 m2 ml e0 e1 e2 B0 nA hHeld hHeld9 hHeld10 c0 c1
        refine wpAnyH_done (by kernel_rfl) ?_ _
        refine name_worldC (p := fun W => Exit.then _ _ _ _ W) (fun W5 hW5 => ?_)
        have n5 : New w4 W5 := by rw [hW5]; exact (((Mod.refl _ w4).alloc _).drew)
        have hs5 : W5.heap.size = w4.heap.size + 1 := by rw [hW5]; show (w4.alloc _).heap.size = _; simp
        have B5 : Hid (Blk W5 w4.heap.size #[.int .i64 q.port, .slice none 0 0, .string q.cook] 34) := hid (by rw [hW5]; exact (Blk.new w4 _ _).drew)
        clear hW5
        obtain ⟨MB, hMB⟩ : ∃ MB, MB = w4.heap.size := ⟨_, rfl⟩
        rw [← hMB] at hs5 B5 ⊢
        have HMB := hid hMB
        have hdb : ∀ x, dv = some x → x.block < MB := fun x hx => by
          rw [hMB]
          rcases HOW.out.2 with ⟨e, -⟩ | ⟨g9, cap9, cur9, e, -, hg9, -⟩
          · injection e with e1; rw [e1] at hx; cases hx
          · injection e with e1
            rw [e1] at hx
            injection hx with hx
            rw [← hx]
            exact (Array.getElem?_eq_some_iff.1 hg9).1
        have HDB := hid hdb
        have E5 : Hid (RtE R aa ah ca ch q D dv dc MB w3.heap.size w4 0 [] none 0 (.slice none 0 0) W5) := hid ⟨R4.out.new n5, ownsP_new HOW.out n5, B5.out, ⟨by simp, by simp [maxLen], by simp, .inl rfl⟩, (fun x hx => by cases hx), World.ownsRow_nil _ _ _ _, ⟨List.Perm.refl _, List.Pairwise.nil⟩, n5⟩
        clear n5 hMB hdb B5
        go_wp2_with fail
        go_loopw [10, 64] (fun tv i wr => ∃ (k : Nat) (N : List ByteArray) (na : Option Addr) (nc : Nat) (tv1 : Value), i = .int .i64 k ∧ tv1 = tv ∧ k ≤ D.length ∧ k ≤ 20 ∧ RtE R aa ah ca ch q D dv dc MB w3.heap.size w4 k N na nc tv wr) (fun _ i _ => D.length - (intOf i).toNat)
        case atStart => exact ⟨0, [], none, 0, _, rfl, rfl, by omega, by omega, E5.out⟩
        case round =>
          obtain ⟨k, N, na, nc, tv1, rfl, rfl, hk, hk20, he⟩ := hrel
          have HE := hid he
          have HNK := hid (he.so.len hk)
          have hNl : N.length ≤ 20 := by rw [HNK.out]; exact hk20
          obtain ⟨ta, tc, rfl⟩ : ∃ ta tc, tv1 = .slice ta k tc := by
            have h0 := he.tl
            have hl : (D.take k).length = k := by rw [List.length_take]; omega
            rcases h0.2 with ⟨e, hz⟩ | ⟨g9, cap9, cur9, e, -⟩
            · rw [hl] at hz; exact ⟨none, 0, by rw [e, hz]⟩
            · rw [hl] at e; exact ⟨_, _, e⟩
          by_cases hlt : k < D.length
          · have hltI : (k : Int) < (D.length : Int) := by omega
            obtain ⟨i, hi⟩ : ∃ i, D[k]? = some i := ⟨_, List.getElem?_eq_getElem hlt⟩
            have HI := hid hi
            have hil : i < q.all.length := HDL.out i (List.mem_of_getElem? hi)
            obtain ⟨dg, hdg⟩ : ∃ dg, dv = some ⟨dg, 0, none⟩ := by
              rcases he.dl.2 with ⟨-, hz⟩ | ⟨g9, cap9, cur9, e, -⟩
              · omega
              · injection e with e1; exact ⟨g9, e1⟩
            subst hdg
            have d0 : wr.cell? ⟨dg, k, none⟩ = some (.int .i64 (i : Int)) := OwnI.cell he.dl hi
            have dl := (Array.getElem?_eq_some_iff.1 (show ∃ o, wr.heap[dg]? = some o by
              rcases he.dl.2 with ⟨e, -⟩ | ⟨g9, cap9, cur9, e, -, hg9, -⟩
              · cases e
              · cases e; exact ⟨_, hg9⟩).choose_spec).1
            have m0 := he.msg.cellv 0 rfl; have m1 := he.msg.cellv 1 rfl; have m2 := he.msg.cellv 2 rfl; have ml := he.msg.lt
            obtain ⟨g, hg, hgl, y0, y1, -, -⟩ := he.cr.all.get hil
            have HG := hid hg
            have hs20 := HO.out.size q.all[i] (List.getElem_mem hil)
            have HNM := hid (nmD_at hil)
            obtain ⟨s, hs⟩ : ∃ s, s = q.all[i].1 := ⟨_, rfl⟩
            rw [← hs] at y0 hs20 HNM
            have HSO := hid (RtN.next HO.out HND.out HDL.out he.so hi)
            rw [HNM.out] at HSO
            clear he hs hi y1
            go_wp2_with fail
            refine name_worldC (p := fun W => Code.wp _ _ _ _ W) (fun W6 hW6 => ?_)
            have n6 : New wr W6 := by rw [hW6]; exact (Mod.refl _ _).alloc _
            obtain ⟨X, hX⟩ : ∃ X, X = wr.heap.size := ⟨_, rfl⟩
            have B6 : Hid (Blk W6 X #[.int .i64 q.port, .slice na N.length nc, .string q.cook] 34) := hid (by rw [hW6, hX]; exact Blk.new wr _ _)
            have HXM : Hid (MB < X ∧ w4.heap.size ≤ X) := hid (by rw [hX]; exact ⟨ml, HE.out.mod.size⟩)
            have HXR : Hid (RcAt W6 R aa ah ca ch q) := hid (HE.out.cr.new n6)
            have N6 := hid n6
            have HX := hid hX
            have HGW : Hid (g < wr.heap.size) := hid hgl
            rw [← hX]
            clear hW6
            have m1 := New.cellv n6 m1; have y0 := New.cellv n6 y0
            have ml := Nat.lt_of_lt_of_le ml n6.size
            have r3 : W6.cell? ⟨R, 3, none⟩ = some (.slice (some ⟨g, 0, none⟩) q.all.length ca) := by rw [← hg]; exact HXR.out.row.cellv 3 rfl
            have rl := HXR.out.row.lt
            have hgl := Nat.lt_of_lt_of_le hgl n6.size
            have hilI : (i : Int) < (q.all.length : Int) := by omega
            have HORD := hid (fun W (n : New W6 W) => ordered23_any na nc N s W ((HE.out.ns.new N6.out).new n) (by rw [hs20]; unfold maxLen; omega) (by omega))
            have hca := HXR.out.all.le; have hca2 := HXR.out.all.max
            unfold maxLen at hca2
            clear n6 d0 dl m0 m2 hX hg
            refine wp_region_held_drew (S := (fun w' => w'.cell? ⟨MB, 1, none⟩ = some (.slice na N.length nc) ∧ w'.cell? ⟨R, 3, none⟩ = some (.slice (some ⟨g, 0, none⟩) q.all.length ca) ∧ w'.cell? ⟨g, i * 2, none⟩ = some (.string s))) (by kernel_rfl) ⟨m1, r3, y0⟩ (fun hHeld => ?_)
            refine tk (v := ?_) 0 ?_ ?_
            rotate_left
            · intro w hSw
              (try dsimp only at hSw)
              first | (go_simp; done) | (go_simp; with_reducible rfl) | with_reducible rfl
            simp only [Act.put, List.setIfInBounds_toArray, List.set_cons_zero, List.set_cons_succ]
            refine tk (v := ?_) 1 ?_ ?_
            rotate_left
            · intro w hSw
              (try dsimp only at hSw)
              first | (go_simp; done) | (go_simp; with_reducible rfl) | with_reducible rfl
            simp only [Act.put, List.setIfInBounds_toArray, List.set_cons_zero, List.set_cons_succ]
            refine tk (v := ?_) 2 ?_ ?_
            rotate_left
            · intro w hSw
              (try dsimp only at hSw)
              first | (go_simp; done) | (go_simp; with_reducible rfl) | with_reducible rfl
            simp only [Act.put, List.setIfInBounds_toArray, List.set_cons_zero, List.set_cons_succ]
            refine tk (v := ?_) 3 ?_ ?_
            rotate_left
            · intro w hSw
              (try dsimp only at hSw)
              first | (go_simp; done) | (go_simp; with_reducible rfl) | with_reducible rfl
            simp only [Act.put, List.setIfInBounds_toArray, List.set_cons_zero, List.set_cons_succ]
            refine tk (v := ?_) 4 ?_ ?_
            rotate_left
            · intro w hSw
              (try dsimp only at hSw)
              first | (go_simp; done) | (go_simp; with_reducible rfl) | with_reducible rfl
            simp only [Act.put, List.setIfInBounds_toArray, List.set_cons_zero, List.set_cons_succ]
            refine tk (v := ?_) 5 ?_ ?_
            rotate_left
            · intro w hSw
              (try dsimp only at hSw)
              first | (go_simp; done) | (go_simp; with_reducible rfl) | with_reducible rfl
            simp only [Act.put, List.setIfInBounds_toArray, List.set_cons_zero, List.set_cons_succ]
            refine tk (v := ?_) 6 ?_ ?_
            rotate_left
            · intro w hSw
              (try dsimp only at hSw)
              first | (go_simp; done) | (go_simp; with_reducible rfl) | with_reducible rfl
            simp only [Act.put, List.setIfInBounds_toArray, List.set_cons_zero, List.set_cons_succ]
            refine tk (v := ?_) 7 ?_ ?_
            rotate_left
            · intro w hSw
              (try dsimp only at hSw)
              first | (go_simp; done) | (go_simp; with_reducible rfl) | with_reducible rfl
            simp only [Act.put, List.setIfInBounds_toArray, List.set_cons_zero, List.set_cons_succ]
            refine tk (v := ?_) 8 ?_ ?_
            rotate_left
            · intro w hSw
              (try dsimp only at hSw)
              first | (go_simp; done) | (go_simp; with_reducible rfl) | with_reducible rfl
            simp only [Act.put, List.setIfInBounds_toArray, List.set_cons_zero, List.set_cons_succ]
            refine tk (v := ?_) 9 ?_ ?_
            rotate_left
            · intro w hSw
              (try dsimp only at hSw)
              first | (go_simp; done) | (go_simp; with_reducible rfl) | with_reducible rfl
            simp only [Act.put, List.setIfInBounds_toArray, List.set_cons_zero, List.set_cons_succ]
            refine wpAnyH_ready (rs := [10]) (by kernel_rfl) (by simp) ?_
            refine AllReadyH.cons rfl (fun K hK => ?_) AllReadyH.nil
            go_simp
            (go_at_call 61; refine (HORD.out _ ((Mod.refl _ W6).drew)).mono ?_; rintro e w8 ⟨v8, rfl, ho8, n8⟩; have HO8 := hid ho8; have N8 : Hid (New W6 w8) := hid ((Mod.refl (fun _ => False) W6).drew.trans n8); clear ho8 n8)
            try dsimp only
            refine hK.out _ _ ⟨New.cellv N8.out m1, New.cellv N8.out r3, New.cellv N8.out y0⟩ (fun hHeld10 => ?_)
            clear hK K
            try simp only [Act.put, List.setIfInBounds_toArray, List.set_cons_zero, List.set_cons_succ]
            obtain ⟨a8, c8, rfl, hs8, hb8⟩ := HO8.out.strs
            obtain ⟨N2, hN2⟩ : ∃ N2, N2 = ordB N s := ⟨_, rfl⟩
            have HN2 := hid hN2
            rw [← hN2] at hs8 HSO ⊢
            have HS8 := hid hs8; have HB8 := hid hb8
            have B8 := hid (New.blk N8.out B6.out)
            have HNK2 := hid (HSO.out.len (by omega))
            have x1 := B8.out.cellv 1 rfl; have xl := B8.out.lt; have xf := B8.out.frz 1
            have s0 : ∀ u, (w8.setCell ⟨X, 1, none⟩ u).cell? ⟨MB, 1, none⟩ = some (.slice na N.length nc) := fun u => cell_off (by show MB ≠ X; have := HXM.out; omega) (New.cellv N8.out m1)
            have s1 : ∀ u, (w8.setCell ⟨X, 1, none⟩ u).cell? ⟨R, 3, none⟩ = some (.slice (some ⟨g, 0, none⟩) q.all.length ca) := fun u => cell_off (by show R ≠ X; have := HXM.out; have := R4.out.row.lt; omega) (New.cellv N8.out r3)
            have s2 : ∀ u, (w8.setCell ⟨X, 1, none⟩ u).cell? ⟨g, i * 2, none⟩ = some (.string s) := fun u => cell_off (by show g ≠ X; have := HX.out; have := HGW.out; omega) (New.cellv N8.out y0)
            clear hs8 hb8 hN2
            refine tk (v := ?_) 11 ?_ ?_
            rotate_left
            · intro w hSw
              (try dsimp only at hSw)
              first | (go_simp; done) | (go_simp; with_reducible rfl) | with_reducible rfl
            simp only [Act.put, List.setIfInBounds_toArray, List.set_cons_zero, List.set_cons_succ]
            refine wpAnyH_ready (rs := [12]) (by kernel_rfl) (by simp) ?_
            refine AllReadyH.cons (by simp only [List.getElem?_toArray, List.getElem?_cons_succ, List.getElem?_cons_zero]; rfl) (fun K hK => ?_) AllReadyH.nil
            go_simp
            refine hK.out _ _ ⟨s0 _, s1 _, s2 _⟩ (fun hHeld12 => ?_)
            clear hK K
            try simp only [Act.put, List.setIfInBounds_toArray, List.set_cons_zero, List.set_cons_succ]
            refine wpAnyH_done (by kernel_rfl) ?_ _
            refine name_worldC (p := fun W => Exit.then _ _ _ _ W) (fun W9 hW9 => ?_)
            have hm9 : Mod (fun k => k = X) w8 W9 := by
              rw [hW9]
              exact Mod.set (S := fun k => k = X) (Mod.refl _ _) ⟨X, 1, none⟩ _ (.inl rfl)
            have B9 : Hid (Blk W9 X #[.int .i64 q.port, .slice a8 N2.length c8, .string q.cook] 34) := hid (by rw [hW9]; exact (B8.out.set 1 _).row (by simp))
            have HM9 : Hid (Mod (fun k => k = X) W6 W9) := hid ((New.mod N8.out).trans hm9)
            have H89 : Hid (w8.heap.size ≤ W9.heap.size) := hid hm9.size
            have HN9 : Hid (New wr W9) := hid (N6.out.trans' HM9.out (fun z hz q => by have := HX.out; omega))
            have HE9 := hid (HE.out.new HN9.out)
            have HS9 : Hid (StrsAt W9 a8 c8 N2) := hid (HS8.out.ofBlock (fun x hx => hm9.block _ (HB8.out x hx).2 (by have h1 := (HB8.out x hx).1; have h2 := B6.out.lt; have h3 : (Mod.refl (fun _ => False) W6).drew.size = (Mod.refl (fun _ => False) W6).drew.size := rfl; simp at h1; omega)) hm9.size)
            have m4 : Hid (New w4 W9) := hid ((HE.out.mod.trans N6.out).trans' HM9.out (fun z hz q => by have := HXM.out.2; omega))
            clear hW9 hm9 x1 xl xf s0 s1 s2 hHeld hHeld10 hHeld12 m1 r3 y0 rl hgl ml
            have x1 := B9.out.cellv 1 rfl; have xl := B9.out.lt; have x0 := B9.out.cellv 0 rfl; have x2 := B9.out.cellv 2 rfl
            by_cases h21 : 20 < k + 1
            · have e3 : decide ((N2.length : Int) > 20) = true := decide_eq_true (by rw [HNK2.out]; omega)
              go_wp2_with fail
              have HFIN : Hid (D.take k = D.take 20) := hid (by rw [show k = 20 by omega])
              clear x0 x1 x2 xl hltI hil hilI e3
              have HDB2 : Hid (∀ x, aa = some x → x.block < MB ∧ R < x.block) := hid (fun x hx => by
                have h1 := R4.out.over _ (.inr (.inl ⟨x, hx, rfl⟩))
                have h2 := (R4.out.all.blk hx).1
                have h3 := HMB.out
                omega)
              have hk1 : 1 ≤ k := by
                rcases Nat.eq_zero_or_pos k with h0 | h0
                · have h9 := HFIN.out
                  rw [h0] at h9
                  have h10 := congrArg List.length h9
                  rw [List.length_take, List.length_take] at h10
                  have h11 : D.length ≠ 0 := fun z => g0 (List.eq_nil_of_length_eq_zero z)
                  omega
                · exact h0
              have hvm : validM ⟨q.port, N, q.cook⟩ = true := asc_valid HO.out.port HO.out.cook.1 HE9.out.so.asc (HE9.out.so.size HO.out HDL.out) (by rw [HNK.out]; exact hk1) hNl
              have HVM := hid hvm
              have HTX := hid (fun W (hs : StrsAt W na nc N) (ht : Tab W) => text_any ⟨q.port, N, q.cook⟩ na nc W hvm hs ht)
              obtain ⟨OUT, hOUT⟩ : ∃ OUT, OUT = mkB (writtenL ⟨q.port, N, q.cook⟩) := ⟨_, rfl⟩
              rw [← hOUT] at HTX
              have HOUT := hid hOUT
              clear hvm hOUT
              go_loopw [99] (fun i wy => ∃ j : Nat, i = .int .i64 j ∧ j ≤ k ∧ PairAt wy (R + 1) 92 aa ca ((D.take j).foldl (putT t) q.all) ∧ Mod (fun z => ∃ x, aa = some x ∧ x.block = z) W9 wy) (fun i _ => k - (intOf i).toNat)
              case atStart => exact ⟨0, rfl, by omega, HE9.out.cr.all, Mod.refl _ _⟩
              case round =>
                obtain ⟨j, rfl, hj, hpa, hmm⟩ := hrel
                have HPA := hid hpa; have HMM := hid hmm
                have RB := hid (hmm.blk HE9.out.cr.row (by rintro ⟨x, hx, e⟩; have := HDB2.out x hx; omega))
                have TL : Hid (OwnI wr (MB + 1) (.slice ta k tc) (D.take k)) := hid (ownsP_mod HE9.out.tl hmm (fun z hz => by rintro ⟨x, hx, e⟩; have h1 := HDB2.out x hx; have h2 := (World.ownsRow.lt HE9.out.tl z hz).1; omega))
                have r3 : wr.cell? ⟨R, 3, none⟩ = some (.slice aa q.all.length ca) := RB.out.cellv 3 rfl
                have rl := RB.out.lt
                have hTl : (D.take k).length = k := by rw [HFIN.out, List.length_take]; have := congrArg List.length HFIN.out; rw [List.length_take, List.length_take] at this; omega
                have hpl := putT_len t (D.take j) q.all
                have hca := hpa.le; have hca2 := hpa.max
                rw [hpl] at hca
                unfold maxLen at hca2
                clear hmm
                by_cases hjk : j < k
                · have hjkI : (j : Int) < (k : Int) := by omega
                  obtain ⟨i, hi⟩ : ∃ i, (D.take k)[j]? = some i := ⟨_, List.getElem?_eq_getElem (by omega)⟩
                  have HNXT := hid (putT_next (t := t) (T := D) (k := j) (i := i) (by rw [List.getElem?_take, if_pos hjk] at hi; exact hi) q.all)
                  have hil : i < q.all.length := HDL.out i (List.mem_of_mem_take (List.mem_of_getElem? hi))
                  obtain ⟨tg, htg⟩ : ∃ tg, ta = some ⟨tg, 0, none⟩ := by
                    rcases TL.out.2 with ⟨-, hz⟩ | ⟨g9, cap9, cur9, e, -⟩
                    · omega
                    · injection e with e1; exact ⟨g9, e1⟩
                  subst htg
                  have d0 : wr.cell? ⟨tg, j, none⟩ = some (.int .i64 (i : Int)) := OwnI.cell TL.out hi
                  obtain ⟨g, hg, hgl, -, y1, -, f1⟩ := hpa.get (i := i) (by rw [hpl]; exact hil)
                  obtain ⟨v1, hv1⟩ : ∃ v1, wr.cell? ⟨g, i * 2 + 1, none⟩ = some v1 := ⟨_, y1⟩
                  clear y1
                  have HG2 := hid hg
                  have HPU : Hid (PairAt (wr.setCell ⟨g, i * 2 + 1, none⟩ (.int .i64 t)) (R + 1) 92 aa ca ((D.take (j + 1)).foldl (putT t) q.all)) := hid (by
                    have h1 := HPA.out
                    rw [hg] at h1
                    have h2 := h1.put (i := i) (by rw [hpl]; exact hil) t
                    rw [HNXT.out, hg]
                    unfold putT at h2 ⊢
                    rw [List.getD_eq_getElem?_getD, List.getElem?_eq_getElem (by rw [← hpl] at hil; exact hil)]
                    exact h2)
                  rw [hg] at r3
                  have hilI : (i : Int) < (q.all.length : Int) := by omega
                  clear hpa hi hpl hg hTl
                  go_wp2_with fail
                  go_roundw
                  case rel => exact ⟨j + 1, by simp, by omega, HPU.out, HMM.out.set _ _ (.inl ⟨_, HG2.out, rfl⟩)⟩
                  case measure => simp [intOf]; omega
                · have hjk2 : j = k := by omega
                  have hjkI : ¬ (j : Int) < (k : Int) := by omega
                  have HPB : Hid (PairAt wr (R + 1) 92 aa ca ((D.take 20).foldl (putT t) q.all)) := hid (by rw [← HFIN.out, ← hjk2]; exact hpa)
                  have c6 : wr.cell? ⟨R, 6, none⟩ = some (.int .i64 q.sent) := RB.out.cellv 6 rfl
                  have c7 : wr.cell? ⟨R, 7, none⟩ = some (.bool q.ever) := RB.out.cellv 7 rfl
                  have f6 := RB.out.frz 6; have f7 := RB.out.frz 7
                  have MS := hid (HMM.out.blk HE9.out.msg (by rintro ⟨x, hx, e⟩; have := (HDB2.out x hx).1; omega))
                  have hRM : MB ≠ R := by have := R4.out.row.lt; have := HMB.out; omega
                  have s0 : ∀ u v, ((wr.setCell ⟨R, 6, none⟩ u).setCell ⟨R, 7, none⟩ v).cell? ⟨MB, 0, none⟩ = some (.int .i64 q.port) := fun u v => cell_off hRM (cell_off hRM (MS.out.cellv 0 rfl))
                  have s1 : ∀ u v, ((wr.setCell ⟨R, 6, none⟩ u).setCell ⟨R, 7, none⟩ v).cell? ⟨MB, 1, none⟩ = some (.slice na N.length nc) := fun u v => cell_off hRM (cell_off hRM (MS.out.cellv 1 rfl))
                  have s2 : ∀ u v, ((wr.setCell ⟨R, 6, none⟩ u).setCell ⟨R, 7, none⟩ v).cell? ⟨MB, 2, none⟩ = some (.string q.cook) := fun u v => cell_off hRM (cell_off hRM (MS.out.cellv 2 rfl))
                  have ml := MS.out.lt
                  have HMR : Hid (∀ u v, Mod (fun z => z = R) wr ((wr.setCell ⟨R, 6, none⟩ u).setCell ⟨R, 7, none⟩ v)) := hid (fun u v => by
                    refine Mod.set (S := fun z => z = R) ?_ ⟨R, 7, none⟩ _ (.inl rfl)
                    exact Mod.set (S := fun z => z = R) (Mod.refl _ _) ⟨R, 6, none⟩ _ (.inl rfl))
                  have HRL : Hid (R < MB) := hid (by have := R4.out.row.lt; have := HMB.out; omega)
                  clear hpa hpl hTl hjk2 hRM
                  go_wp2_with fail
                  have MT : Hid (∀ u v, Mod (fun z => z = R ∨ ∃ x, aa = some x ∧ x.block = z) w ((wr.setCell ⟨R, 6, none⟩ u).setCell ⟨R, 7, none⟩ v)) := hid (fun u v => (((M4.out.mono (S' := fun z => z = R ∨ ∃ x, aa = some x ∧ x.block = z) (fun _ _ z => .inl z)).trans (New.mod HE9.out.mod)).trans' HMM.out (fun _ _ z => .inr z)).trans' (HMR.out u v) (fun _ _ z => .inl z))
                  refine (HTX.out _ ?_ ?_).mono ?_
                  · refine HE9.out.ns.ofBlock (fun x hx => ?_) (Nat.le_trans HMM.out.size (HMR.out _ _).size)
                    obtain ⟨b9, o9, e9, hb9, -⟩ := HE9.out.ns.get (by rw [HNK.out]; exact hk1)
                    rw [e9] at hx
                    injection hx with hx
                    have h1 := HE9.out.nb _ e9
                    rw [← hx]
                    refine ((HMR.out _ _).block _ (Nat.lt_of_lt_of_le hb9 HMM.out.size) (fun z => ?_)).trans (HMM.out.block _ hb9 ?_)
                    · have := HRL.out; simp only at h1 z; omega
                    · rintro ⟨x, hx, e⟩
                      have := (HDB2.out x hx).1
                      simp only at h1 e
                      omega
                  · exact HTB.out _ (MT.out _ _)
                  rintro e w9 ⟨rfl, n9⟩
                  have N9 := hid n9
                  clear n9
                  go_wp2_with fail
                  go_ret2
                  have hN9 : Mod (fun z => z = R) wr w9 := (HMR.out _ _).trans (New.mod N9.out)
                  have hR9 : Blk w9 R (rcRow aa ah ca ch (q.tellC t (D.take 20))) 89 := New.blk N9.out (((RB.out.set 6 _).set 7 _).row (by rw [HQ3.out]; simp [rcRow, RcV.tellC, putT_len]))
                  have hRa : ∀ x, aa = some x → x.block ≠ R := fun x hx z => by have := (HDB2.out x hx).2; omega
                  have hRc : RcAt w9 R aa ah ca ch (q.tellC t (D.take 20)) := ⟨hR9, HPB.out.mod hN9 (fun x hx => hRa x hx), ownsP_mod (ownsP_mod HE9.out.cr.heard HMM.out (fun z hz => ?_)) hN9 (fun z hz => ?_)⟩
                  · have e9 := HQ3.out
                    subst e9
                    exact ⟨D, HPM2.out, HPW2.out, .inr ⟨g0, HNE.out, N, by rw [← HFIN.out]; exact HE9.out.so.perm, HVM.out, (by have e8 := HOUT.out; subst e8; rfl), hRc, (MT.out _ _).trans' N9.out (fun _ _ z => z.elim)⟩⟩
                  · rintro ⟨x, hx, e⟩
                    cases ah with
                    | none => cases hz
                    | some y =>
                      injection hz with hz
                      exact HE9.out.cr.apart hx rfl (by rw [e, hz])
                  · cases ah with
                    | none => cases hz
                    | some y =>
                      injection hz with hz
                      have := (HE9.out.cr.hears.blk rfl).1
                      omega
            · have e3 : decide ((N2.length : Int) > 20) = false := decide_eq_false (by rw [HNK2.out]; omega)
              have hvm : validM ⟨q.port, N2, q.cook⟩ = true := asc_valid HO.out.port HO.out.cook.1 HSO.out.asc (HSO.out.size HO.out HDL.out) (by rw [HNK2.out]; omega) (by rw [HNK2.out]; omega)
              have HTX := hid (text_any ⟨q.port, N2, q.cook⟩ a8 c8 W9 hvm HS9.out (HTB.out W9 ((M4.out.mono (fun _ _ z => .inl z)).trans (New.mod m4.out))))
              obtain ⟨OUT, hOUT⟩ : ∃ OUT, OUT = mkB (writtenL ⟨q.port, N2, q.cook⟩) := ⟨_, rfl⟩
              have hol : OUT.size ≤ 1400 := by rw [hOUT, mkB_size]; exact written_len hvm
              rw [← hOUT] at HTX
              have e4 : decide ((OUT.size : Int) > 1400) = false := decide_eq_false (by omega)
              have e5 : ¬ (1400 : Int) < (OUT.size : Int) := by omega
              have e6 : ¬ (20 : Int) < (N2.length : Int) := by rw [HNK2.out]; omega
              clear hvm hOUT
              go_wp2_with fail
              refine HTX.out.mono ?_
              rintro e w10 ⟨rfl, n10⟩
              have N10 := hid n10
              have x1 := New.cellv n10 x1; have x0 := New.cellv n10 x0; have x2 := New.cellv n10 x2
              have xl := Nat.lt_of_lt_of_le xl n10.size
              have H10 := hid (HE9.out.new n10)
              have k0 := H10.out.msg.cellv 0 rfl; have k1 := H10.out.msg.cellv 1 rfl; have k2 := H10.out.msg.cellv 2 rfl; have kl := H10.out.msg.lt
              have f0 := H10.out.msg.frz 0; have f1 := H10.out.msg.frz 1; have f2 := H10.out.msg.frz 2
              clear n10
              have hms : ∀ u v x, Mod (fun z => z = MB) w10 (((w10.setCell ⟨MB, 0, none⟩ u).setCell ⟨MB, 1, none⟩ v).setCell ⟨MB, 2, none⟩ x) := fun u v x => by
                refine Mod.set (S := fun z => z = MB) ?_ ⟨MB, 2, none⟩ _ (.inl rfl)
                refine Mod.set (S := fun z => z = MB) ?_ ⟨MB, 1, none⟩ _ (.inl rfl)
                exact Mod.set (S := fun z => z = MB) (Mod.refl _ _) ⟨MB, 0, none⟩ _ (.inl rfl)
              have HMS := hid hms
              have HTL : Hid (w10.ownsRow (MB + 1) 3 1 (.slice ta k tc) k (natRow (D.take k))) := hid (by
                have h1 := H10.out.tl
                unfold OwnI at h1
                rw [show (D.take k).length = k by rw [List.length_take]; omega] at h1
                exact h1)
              have HTX : Hid (∀ z, (Value.slice ta k tc).ownBlock = some z → MB + 1 ≤ z ∧ z < X) := hid (fun z hz => ⟨(World.ownsRow.lt HTL.out z hz).1, by rw [HX.out]; exact (World.ownsRow.lt HE.out.tl z hz).2⟩)
              have htc : k ≤ tc ∧ tc ≤ maxLen ∨ ta = none := by
                rcases HTL.out.2 with ⟨e, -⟩ | ⟨g9, cap9, cur9, e, -, -, h1, h2, -⟩
                · right; injection e
                · left; injection e with _ _ e3; rw [e3]; exact ⟨h1, h2⟩
              clear hms e3 e4 e5 e6 htc
              obtain ⟨i0, hi, hz0, hz1, hz2⟩ := info_parts info_int
              go_wp2_with (at_builtin; go_loud (refine wpList_append_own_at _ rfl _ _ 96 rfl (MB + 1) 3 i0 _ 1 8 Tryz.underlying96 hi hz0 hz1 hz2 rfl (by decide) (.slice ta k tc) k (natRow (D.take k)) rfl ?ow ⟨w10.heap.size, 0, none⟩ 1 1 [.int .i64 (i : Int)] rfl ?hl ?hn ?h1 ?h63 ?hby ?hba ?_))
              case ow => exact ownsP_new (ownsP_mod HTL.out (HMS.out _ _ _) (fun z hz => by have := (HTX.out z hz).1; omega)) ((Mod.refl _ _).alloc _)
              case hl => rfl
              try (case hn => exact fun j u hj => by rw [addP]; match j, hj with | 0, hj => simp at hj; subst hj; exact (Blk.newAt (by simp)).cellv 0 rfl)
              try (case h1 => first | rfl | (intro u hu; simp at hu; subst hu; rfl))
              case h63 => unfold maxLen; omega
              case hby => omega
              try (case hba => simp; omega)
              intro o2 w2 r2 g2 hne2 hob2
              have NF : Hid (New w4 w2) := hid (newGrownP ((H10.out.mod.trans' (HMS.out _ _ _) (fun z hz q => by have := HMB.out; omega)).alloc _) g2 (fun z hz => by have := (HTX.out z hz).1; have := HMB.out; omega))
              have HOB := hid hob2
              have hB : Blk (((w10.setCell ⟨MB, 0, none⟩ (.int .i64 q.port)).setCell ⟨MB, 1, none⟩ (.slice a8 N2.length c8)).setCell ⟨MB, 2, none⟩ (.string q.cook)) MB #[.int .i64 q.port, .slice a8 N2.length c8, .string q.cook] 34 := (((H10.out.msg.set 0 _).set 1 _).set 2 _).row (by simp)
              have hz6 : X < W6.heap.size := B6.out.lt
              have hlow : ∀ x, a8 = some x → W6.heap.size ≤ x.block ∧ x.block < w8.heap.size := HB8.out
              have hsA := HM9.out.size; have hsB := N10.out.size; have hs8 := N8.out.size
              have EF : Hid (RtE R aa ah ca ch q D (some ⟨dg, 0, none⟩) dc MB w3.heap.size w4 (k + 1) N2 a8 c8 o2 w2) := hid ⟨R4.out.new NF.out, ownsP_new HOW.out NF.out, (hB.alloc _).of_heap (g2.block MB (by simp; omega) (fun z => by have := (HTX.out MB z.symm).1; omega)), HS9.out.ofBlock (fun x hx => by
                  have hxb := hlow x hx
                  have hx9 : x.block < W9.heap.size := Nat.lt_of_lt_of_le hxb.2 H89.out
                  have hx10 : x.block < w10.heap.size := Nat.lt_of_lt_of_le hx9 hsB
                  have hXM := HXM.out.1
                  refine (g2.block x.block (by simp; omega) (fun z => by have := (HTX.out _ z.symm).2; omega)).trans ?_
                  refine (Below.heap_alloc _ _ _ (by simpa using hx10)).trans ?_
                  exact ((HMS.out _ _ _).block x.block hx10 (by omega)).trans (N10.out.block x.block hx9 (fun q => q))) (by have := g2.size; simp at this; omega), fun x hx => by have := (hlow x hx).1; have := HXM.out.1; omega, by
                  have h1 := r2
                  unfold OwnI
                  rw [show (D.take (k + 1)).length = k + 1 by rw [List.length_take]; omega, show natRow (D.take (k + 1)) = natRow (D.take k) ++ [.int .i64 (i : Int)] by rw [List.take_succ_eq_append_getElem hlt, natRow_app, (List.getElem?_eq_some_iff.1 HI.out).2]; rfl]
                  exact h1, HSO.out, NF.out⟩
              clear r2 g2 hne2 hob2 hB hz6 hlow hsA hsB hs8
              go_wp2_with fail
              exact ⟨⟨k + 1, N2, a8, c8, _, by simp, rfl, by omega, by omega, EF.out⟩, by simp [intOf]; omega⟩
          · have hkD : k = D.length := by omega
            have hltI : ¬ (k : Int) < (D.length : Int) := by omega
            have HFIN : Hid (D.take k = D.take 20) := hid (by rw [List.take_of_length_le (by omega), List.take_of_length_le (by omega)])
            clear he hkD
            go_wp2_with fail
            have HDB2 : Hid (∀ x, aa = some x → x.block < MB ∧ R < x.block) := hid (fun x hx => by
              have h1 := R4.out.over _ (.inr (.inl ⟨x, hx, rfl⟩))
              have h2 := (R4.out.all.blk hx).1
              have h3 := HMB.out
              omega)
            have hk1 : 1 ≤ k := by
              rcases Nat.eq_zero_or_pos k with h0 | h0
              · have h9 := HFIN.out
                rw [h0] at h9
                have h10 := congrArg List.length h9
                rw [List.length_take, List.length_take] at h10
                have h11 : D.length ≠ 0 := fun z => g0 (List.eq_nil_of_length_eq_zero z)
                omega
              · exact h0
            have hvm : validM ⟨q.port, N, q.cook⟩ = true := asc_valid HO.out.port HO.out.cook.1 HE.out.so.asc (HE.out.so.size HO.out HDL.out) (by rw [HNK.out]; exact hk1) hNl
            have HVM := hid hvm
            have HTX := hid (fun W (hs : StrsAt W na nc N) (ht : Tab W) => text_any ⟨q.port, N, q.cook⟩ na nc W hvm hs ht)
            obtain ⟨OUT, hOUT⟩ : ∃ OUT, OUT = mkB (writtenL ⟨q.port, N, q.cook⟩) := ⟨_, rfl⟩
            rw [← hOUT] at HTX
            have HOUT := hid hOUT
            clear hvm hOUT
            go_loopw [99] (fun i wy => ∃ j : Nat, i = .int .i64 j ∧ j ≤ k ∧ PairAt wy (R + 1) 92 aa ca ((D.take j).foldl (putT t) q.all) ∧ Mod (fun z => ∃ x, aa = some x ∧ x.block = z) wr wy) (fun i _ => k - (intOf i).toNat)
            case atStart => exact ⟨0, rfl, by omega, HE.out.cr.all, Mod.refl _ _⟩
            case round =>
              obtain ⟨j, rfl, hj, hpa, hmm⟩ := hrel
              have HPA := hid hpa; have HMM := hid hmm
              have RB := hid (hmm.blk HE.out.cr.row (by rintro ⟨x, hx, e⟩; have := HDB2.out x hx; omega))
              have TL : Hid (OwnI wr (MB + 1) (.slice ta k tc) (D.take k)) := hid (ownsP_mod HE.out.tl hmm (fun z hz => by rintro ⟨x, hx, e⟩; have h1 := HDB2.out x hx; have h2 := (World.ownsRow.lt HE.out.tl z hz).1; omega))
              have r3 : wr.cell? ⟨R, 3, none⟩ = some (.slice aa q.all.length ca) := RB.out.cellv 3 rfl
              have rl := RB.out.lt
              have hTl : (D.take k).length = k := by rw [HFIN.out, List.length_take]; have := congrArg List.length HFIN.out; rw [List.length_take, List.length_take] at this; omega
              have hpl := putT_len t (D.take j) q.all
              have hca := hpa.le; have hca2 := hpa.max
              rw [hpl] at hca
              unfold maxLen at hca2
              clear hmm
              by_cases hjk : j < k
              · have hjkI : (j : Int) < (k : Int) := by omega
                obtain ⟨i, hi⟩ : ∃ i, (D.take k)[j]? = some i := ⟨_, List.getElem?_eq_getElem (by omega)⟩
                have HNXT := hid (putT_next (t := t) (T := D) (k := j) (i := i) (by rw [List.getElem?_take, if_pos hjk] at hi; exact hi) q.all)
                have hil : i < q.all.length := HDL.out i (List.mem_of_mem_take (List.mem_of_getElem? hi))
                obtain ⟨tg, htg⟩ : ∃ tg, ta = some ⟨tg, 0, none⟩ := by
                  rcases TL.out.2 with ⟨-, hz⟩ | ⟨g9, cap9, cur9, e, -⟩
                  · omega
                  · injection e with e1; exact ⟨g9, e1⟩
                subst htg
                have d0 : wr.cell? ⟨tg, j, none⟩ = some (.int .i64 (i : Int)) := OwnI.cell TL.out hi
                obtain ⟨g, hg, hgl, -, y1, -, f1⟩ := hpa.get (i := i) (by rw [hpl]; exact hil)
                obtain ⟨v1, hv1⟩ : ∃ v1, wr.cell? ⟨g, i * 2 + 1, none⟩ = some v1 := ⟨_, y1⟩
                clear y1
                have HG2 := hid hg
                have HPU : Hid (PairAt (wr.setCell ⟨g, i * 2 + 1, none⟩ (.int .i64 t)) (R + 1) 92 aa ca ((D.take (j + 1)).foldl (putT t) q.all)) := hid (by
                  have h1 := HPA.out
                  rw [hg] at h1
                  have h2 := h1.put (i := i) (by rw [hpl]; exact hil) t
                  rw [HNXT.out, hg]
                  unfold putT at h2 ⊢
                  rw [List.getD_eq_getElem?_getD, List.getElem?_eq_getElem (by rw [← hpl] at hil; exact hil)]
                  exact h2)
                rw [hg] at r3
                have hilI : (i : Int) < (q.all.length : Int) := by omega
                clear hpa hi hpl hg hTl
                go_wp2_with fail
                go_roundw
                case rel => exact ⟨j + 1, by simp, by omega, HPU.out, HMM.out.set _ _ (.inl ⟨_, HG2.out, rfl⟩)⟩
                case measure => simp [intOf]; omega
              · have hjk2 : j = k := by omega
                have hjkI : ¬ (j : Int) < (k : Int) := by omega
                have HPB : Hid (PairAt wr (R + 1) 92 aa ca ((D.take 20).foldl (putT t) q.all)) := hid (by rw [← HFIN.out, ← hjk2]; exact hpa)
                have c6 : wr.cell? ⟨R, 6, none⟩ = some (.int .i64 q.sent) := RB.out.cellv 6 rfl
                have c7 : wr.cell? ⟨R, 7, none⟩ = some (.bool q.ever) := RB.out.cellv 7 rfl
                have f6 := RB.out.frz 6; have f7 := RB.out.frz 7
                have MS := hid (HMM.out.blk HE.out.msg (by rintro ⟨x, hx, e⟩; have := (HDB2.out x hx).1; omega))
                have hRM : MB ≠ R := by have := R4.out.row.lt; have := HMB.out; omega
                have s0 : ∀ u v, ((wr.setCell ⟨R, 6, none⟩ u).setCell ⟨R, 7, none⟩ v).cell? ⟨MB, 0, none⟩ = some (.int .i64 q.port) := fun u v => cell_off hRM (cell_off hRM (MS.out.cellv 0 rfl))
                have s1 : ∀ u v, ((wr.setCell ⟨R, 6, none⟩ u).setCell ⟨R, 7, none⟩ v).cell? ⟨MB, 1, none⟩ = some (.slice na N.length nc) := fun u v => cell_off hRM (cell_off hRM (MS.out.cellv 1 rfl))
                have s2 : ∀ u v, ((wr.setCell ⟨R, 6, none⟩ u).setCell ⟨R, 7, none⟩ v).cell? ⟨MB, 2, none⟩ = some (.string q.cook) := fun u v => cell_off hRM (cell_off hRM (MS.out.cellv 2 rfl))
                have ml := MS.out.lt
                have HMR : Hid (∀ u v, Mod (fun z => z = R) wr ((wr.setCell ⟨R, 6, none⟩ u).setCell ⟨R, 7, none⟩ v)) := hid (fun u v => by
                  refine Mod.set (S := fun z => z = R) ?_ ⟨R, 7, none⟩ _ (.inl rfl)
                  exact Mod.set (S := fun z => z = R) (Mod.refl _ _) ⟨R, 6, none⟩ _ (.inl rfl))
                have HRL : Hid (R < MB) := hid (by have := R4.out.row.lt; have := HMB.out; omega)
                clear hpa hpl hTl hjk2 hRM
                go_wp2_with fail
                have MT : Hid (∀ u v, Mod (fun z => z = R ∨ ∃ x, aa = some x ∧ x.block = z) w ((wr.setCell ⟨R, 6, none⟩ u).setCell ⟨R, 7, none⟩ v)) := hid (fun u v => (((M4.out.mono (S' := fun z => z = R ∨ ∃ x, aa = some x ∧ x.block = z) (fun _ _ z => .inl z)).trans (New.mod HE.out.mod)).trans' HMM.out (fun _ _ z => .inr z)).trans' (HMR.out u v) (fun _ _ z => .inl z))
                refine (HTX.out _ ?_ ?_).mono ?_
                · refine HE.out.ns.ofBlock (fun x hx => ?_) (Nat.le_trans HMM.out.size (HMR.out _ _).size)
                  obtain ⟨b9, o9, e9, hb9, -⟩ := HE.out.ns.get (by rw [HNK.out]; exact hk1)
                  rw [e9] at hx
                  injection hx with hx
                  have h1 := HE.out.nb _ e9
                  rw [← hx]
                  refine ((HMR.out _ _).block _ (Nat.lt_of_lt_of_le hb9 HMM.out.size) (fun z => ?_)).trans (HMM.out.block _ hb9 ?_)
                  · have := HRL.out; simp only at h1 z; omega
                  · rintro ⟨x, hx, e⟩
                    have := (HDB2.out x hx).1
                    simp only at h1 e
                    omega
                · exact HTB.out _ (MT.out _ _)
                rintro e w9 ⟨rfl, n9⟩
                have N9 := hid n9
                clear n9
                go_wp2_with fail
                go_ret2
                have hN9 : Mod (fun z => z = R) wr w9 := (HMR.out _ _).trans (New.mod N9.out)
                have hR9 : Blk w9 R (rcRow aa ah ca ch (q.tellC t (D.take 20))) 89 := New.blk N9.out (((RB.out.set 6 _).set 7 _).row (by rw [HQ3.out]; simp [rcRow, RcV.tellC, putT_len]))
                have hRa : ∀ x, aa = some x → x.block ≠ R := fun x hx z => by have := (HDB2.out x hx).2; omega
                have hRc : RcAt w9 R aa ah ca ch (q.tellC t (D.take 20)) := ⟨hR9, HPB.out.mod hN9 (fun x hx => hRa x hx), ownsP_mod (ownsP_mod HE.out.cr.heard HMM.out (fun z hz => ?_)) hN9 (fun z hz => ?_)⟩
                · have e9 := HQ3.out
                  subst e9
                  exact ⟨D, HPM2.out, HPW2.out, .inr ⟨g0, HNE.out, N, by rw [← HFIN.out]; exact HE.out.so.perm, HVM.out, (by have e8 := HOUT.out; subst e8; rfl), hRc, (MT.out _ _).trans' N9.out (fun _ _ z => z.elim)⟩⟩
                · rintro ⟨x, hx, e⟩
                  cases ah with
                  | none => cases hz
                  | some y =>
                    injection hz with hz
                    exact HE.out.cr.apart hx rfl (by rw [e, hz])
                · cases ah with
                  | none => cases hz
                  | some y =>
                    injection hz with hz
                    have := (HE.out.cr.hears.blk rfl).1
                    omega
    | false =>
      rw [hev2] at q7
      have HNE : Hid (¬ (r.ever = true ∧ t - r.sent < 1000)) := hid (fun z => by rw [← HQV.out, hev2] at z; cases z.1)
      go_wp2_with fail
      clear q5 q6 q7 qf
      have c0 : w4.cell? ⟨R, 0, none⟩ = some (.string q.cook) := R4.out.row.cellv 0 rfl
      have c1 : w4.cell? ⟨R, 1, none⟩ = some (.int .i64 q.port) := R4.out.row.cellv 1 rfl
      refine wp_region_held_drew (S := (fun w' => w'.cell? ⟨R, 0, none⟩ = some (.string q.cook) ∧ w'.cell? ⟨R, 1, none⟩ = some (.int .i64 q.port))) (by kernel_rfl) ⟨c0, c1⟩ (fun hHeld => ?_)
      refine tk (v := ?_) 0 ?_ ?_
      rotate_left
      · intro w hSw
        (try dsimp only at hSw)
        first | (go_simp; done) | (go_simp; with_reducible rfl) | with_reducible rfl
      simp only [Act.put, List.setIfInBounds_toArray, List.set_cons_zero, List.set_cons_succ]
      refine tk (v := ?_) 1 ?_ ?_
      rotate_left
      · intro w hSw
        (try dsimp only at hSw)
        first | (go_simp; done) | (go_simp; with_reducible rfl) | with_reducible rfl
      simp only [Act.put, List.setIfInBounds_toArray, List.set_cons_zero, List.set_cons_succ]
      refine tk (v := ?_) 2 ?_ ?_
      rotate_left
      · intro w hSw
        (try dsimp only at hSw)
        first | (go_simp; done) | (go_simp; with_reducible rfl) | with_reducible rfl
      simp only [Act.put, List.setIfInBounds_toArray, List.set_cons_zero, List.set_cons_succ]
      refine tk (v := ?_) 3 ?_ ?_
      rotate_left
      · intro w hSw
        (try dsimp only at hSw)
        first | (go_simp; done) | (go_simp; with_reducible rfl) | with_reducible rfl
      simp only [Act.put, List.setIfInBounds_toArray, List.set_cons_zero, List.set_cons_succ]
      refine tk (v := ?_) 4 ?_ ?_
      rotate_left
      · intro w hSw
        (try dsimp only at hSw)
        first | (go_simp; done) | (go_simp; with_reducible rfl) | with_reducible rfl
      simp only [Act.put, List.setIfInBounds_toArray, List.set_cons_zero, List.set_cons_succ]
      refine tk (v := ?_) 5 ?_ ?_
      rotate_left
      · intro w hSw
        (try dsimp only at hSw)
        first | (go_simp; done) | (go_simp; with_reducible rfl) | with_reducible rfl
      simp only [Act.put, List.setIfInBounds_toArray, List.set_cons_zero, List.set_cons_succ]
      refine tk (v := ?_) 6 ?_ ?_
      rotate_left
      · intro w hSw
        (try dsimp only at hSw)
        first | (go_simp; done) | (go_simp; with_reducible rfl) | with_reducible rfl
      simp only [Act.put, List.setIfInBounds_toArray, List.set_cons_zero, List.set_cons_succ]
      refine tk (v := ?_) 7 ?_ ?_
      rotate_left
      · intro w hSw
        (try dsimp only at hSw)
        first | (go_simp; done) | (go_simp; with_reducible rfl) | with_reducible rfl
      simp only [Act.put, List.setIfInBounds_toArray, List.set_cons_zero, List.set_cons_succ]
      refine tk (v := ?_) 8 ?_ ?_
      rotate_left
      · intro w hSw
        (try dsimp only at hSw)
        first | (go_simp; done) | (go_simp; with_reducible rfl) | with_reducible rfl
      simp only [Act.put, List.setIfInBounds_toArray, List.set_cons_zero, List.set_cons_succ]
      have nA : ∀ o, New w4 (w4.drew.alloc o) := fun o => ((Mod.refl _ w4).drew).alloc o
      refine wpAnyH_ready (rs := [9]) (by kernel_rfl) (by simp) ?_
      refine AllReadyH.cons (by simp only [List.getElem?_toArray, List.getElem?_cons_succ, List.getElem?_cons_zero]; rfl) (fun K hK => ?_) AllReadyH.nil
      go_simp
      refine hK.out _ _ ⟨New.cellv (nA _) c0, New.cellv (nA _) c1⟩ (fun hHeld9 => ?_)
      clear hK K
      try simp only [Act.put, List.setIfInBounds_toArray, List.set_cons_zero, List.set_cons_succ]
      have B0 := Blk.newAt (w := w4) (cs := #[.int .i64 0, .slice none 0 0, .string ⟨#[]⟩]) (t := 34) rfl
      have m0 := B0.cellv 0 rfl; have m1 := B0.cellv 1 rfl; have m2 := B0.cellv 2 rfl; have ml := B0.lt
      have e0 := B0.frz 0; have e1 := B0.frz 1; have e2 := B0.frz 2
      refine wpAnyH_ready (rs := [10]) (by kernel_rfl) (by simp) ?_
      refine AllReadyH.cons (by simp only [List.getElem?_toArray, List.getElem?_cons_succ, List.getElem?_cons_zero]; rfl) (fun K hK => ?_) AllReadyH.nil
      go_simp
      refine hK.out _ _ ⟨New.cellv (nA (.cells #[.int .i64 q.port, .slice none 0 0, .string q.cook] 34)) c0, New.cellv (nA (.cells #[.int .i64 q.port, .slice none 0 0, .string q.cook] 34)) c1⟩ (fun hHeld10 => ?_)
      clear hK K m0 m1 m2 ml e0 e1 e2 B0 nA hHeld hHeld9 hHeld10 c0 c1
      refine wpAnyH_done (by kernel_rfl) ?_ _
      refine name_worldC (p := fun W => Exit.then _ _ _ _ W) (fun W5 hW5 => ?_)
      have n5 : New w4 W5 := by rw [hW5]; exact (((Mod.refl _ w4).alloc _).drew)
      have hs5 : W5.heap.size = w4.heap.size + 1 := by rw [hW5]; show (w4.alloc _).heap.size = _; simp
      have B5 : Hid (Blk W5 w4.heap.size #[.int .i64 q.port, .slice none 0 0, .string q.cook] 34) := hid (by rw [hW5]; exact (Blk.new w4 _ _).drew)
      clear hW5
      obtain ⟨MB, hMB⟩ : ∃ MB, MB = w4.heap.size := ⟨_, rfl⟩
      rw [← hMB] at hs5 B5 ⊢
      have HMB := hid hMB
      have hdb : ∀ x, dv = some x → x.block < MB := fun x hx => by
        rw [hMB]
        rcases HOW.out.2 with ⟨e, -⟩ | ⟨g9, cap9, cur9, e, -, hg9, -⟩
        · injection e with e1; rw [e1] at hx; cases hx
        · injection e with e1
          rw [e1] at hx
          injection hx with hx
          rw [← hx]
          exact (Array.getElem?_eq_some_iff.1 hg9).1
      have HDB := hid hdb
      have E5 : Hid (RtE R aa ah ca ch q D dv dc MB w3.heap.size w4 0 [] none 0 (.slice none 0 0) W5) := hid ⟨R4.out.new n5, ownsP_new HOW.out n5, B5.out, ⟨by simp, by simp [maxLen], by simp, .inl rfl⟩, (fun x hx => by cases hx), World.ownsRow_nil _ _ _ _, ⟨List.Perm.refl _, List.Pairwise.nil⟩, n5⟩
      clear n5 hMB hdb B5
      go_wp2_with fail
      go_loopw [10, 64] (fun tv i wr => ∃ (k : Nat) (N : List ByteArray) (na : Option Addr) (nc : Nat) (tv1 : Value), i = .int .i64 k ∧ tv1 = tv ∧ k ≤ D.length ∧ k ≤ 20 ∧ RtE R aa ah ca ch q D dv dc MB w3.heap.size w4 k N na nc tv wr) (fun _ i _ => D.length - (intOf i).toNat)
      case atStart => exact ⟨0, [], none, 0, _, rfl, rfl, by omega, by omega, E5.out⟩
      case round =>
        obtain ⟨k, N, na, nc, tv1, rfl, rfl, hk, hk20, he⟩ := hrel
        have HE := hid he
        have HNK := hid (he.so.len hk)
        have hNl : N.length ≤ 20 := by rw [HNK.out]; exact hk20
        obtain ⟨ta, tc, rfl⟩ : ∃ ta tc, tv1 = .slice ta k tc := by
          have h0 := he.tl
          have hl : (D.take k).length = k := by rw [List.length_take]; omega
          rcases h0.2 with ⟨e, hz⟩ | ⟨g9, cap9, cur9, e, -⟩
          · rw [hl] at hz; exact ⟨none, 0, by rw [e, hz]⟩
          · rw [hl] at e; exact ⟨_, _, e⟩
        by_cases hlt : k < D.length
        · have hltI : (k : Int) < (D.length : Int) := by omega
          obtain ⟨i, hi⟩ : ∃ i, D[k]? = some i := ⟨_, List.getElem?_eq_getElem hlt⟩
          have HI := hid hi
          have hil : i < q.all.length := HDL.out i (List.mem_of_getElem? hi)
          obtain ⟨dg, hdg⟩ : ∃ dg, dv = some ⟨dg, 0, none⟩ := by
            rcases he.dl.2 with ⟨-, hz⟩ | ⟨g9, cap9, cur9, e, -⟩
            · omega
            · injection e with e1; exact ⟨g9, e1⟩
          subst hdg
          have d0 : wr.cell? ⟨dg, k, none⟩ = some (.int .i64 (i : Int)) := OwnI.cell he.dl hi
          have dl := (Array.getElem?_eq_some_iff.1 (show ∃ o, wr.heap[dg]? = some o by
            rcases he.dl.2 with ⟨e, -⟩ | ⟨g9, cap9, cur9, e, -, hg9, -⟩
            · cases e
            · cases e; exact ⟨_, hg9⟩).choose_spec).1
          have m0 := he.msg.cellv 0 rfl; have m1 := he.msg.cellv 1 rfl; have m2 := he.msg.cellv 2 rfl; have ml := he.msg.lt
          obtain ⟨g, hg, hgl, y0, y1, -, -⟩ := he.cr.all.get hil
          have HG := hid hg
          have hs20 := HO.out.size q.all[i] (List.getElem_mem hil)
          have HNM := hid (nmD_at hil)
          obtain ⟨s, hs⟩ : ∃ s, s = q.all[i].1 := ⟨_, rfl⟩
          rw [← hs] at y0 hs20 HNM
          have HSO := hid (RtN.next HO.out HND.out HDL.out he.so hi)
          rw [HNM.out] at HSO
          clear he hs hi y1
          go_wp2_with fail
          refine name_worldC (p := fun W => Code.wp _ _ _ _ W) (fun W6 hW6 => ?_)
          have n6 : New wr W6 := by rw [hW6]; exact (Mod.refl _ _).alloc _
          obtain ⟨X, hX⟩ : ∃ X, X = wr.heap.size := ⟨_, rfl⟩
          have B6 : Hid (Blk W6 X #[.int .i64 q.port, .slice na N.length nc, .string q.cook] 34) := hid (by rw [hW6, hX]; exact Blk.new wr _ _)
          have HXM : Hid (MB < X ∧ w4.heap.size ≤ X) := hid (by rw [hX]; exact ⟨ml, HE.out.mod.size⟩)
          have HXR : Hid (RcAt W6 R aa ah ca ch q) := hid (HE.out.cr.new n6)
          have N6 := hid n6
          have HX := hid hX
          have HGW : Hid (g < wr.heap.size) := hid hgl
          rw [← hX]
          clear hW6
          have m1 := New.cellv n6 m1; have y0 := New.cellv n6 y0
          have ml := Nat.lt_of_lt_of_le ml n6.size
          have r3 : W6.cell? ⟨R, 3, none⟩ = some (.slice (some ⟨g, 0, none⟩) q.all.length ca) := by rw [← hg]; exact HXR.out.row.cellv 3 rfl
          have rl := HXR.out.row.lt
          have hgl := Nat.lt_of_lt_of_le hgl n6.size
          have hilI : (i : Int) < (q.all.length : Int) := by omega
          have HORD := hid (fun W (n : New W6 W) => ordered23_any na nc N s W ((HE.out.ns.new N6.out).new n) (by rw [hs20]; unfold maxLen; omega) (by omega))
          have hca := HXR.out.all.le; have hca2 := HXR.out.all.max
          unfold maxLen at hca2
          clear n6 d0 dl m0 m2 hX hg
          refine wp_region_held_drew (S := (fun w' => w'.cell? ⟨MB, 1, none⟩ = some (.slice na N.length nc) ∧ w'.cell? ⟨R, 3, none⟩ = some (.slice (some ⟨g, 0, none⟩) q.all.length ca) ∧ w'.cell? ⟨g, i * 2, none⟩ = some (.string s))) (by kernel_rfl) ⟨m1, r3, y0⟩ (fun hHeld => ?_)
          refine tk (v := ?_) 0 ?_ ?_
          rotate_left
          · intro w hSw
            (try dsimp only at hSw)
            first | (go_simp; done) | (go_simp; with_reducible rfl) | with_reducible rfl
          simp only [Act.put, List.setIfInBounds_toArray, List.set_cons_zero, List.set_cons_succ]
          refine tk (v := ?_) 1 ?_ ?_
          rotate_left
          · intro w hSw
            (try dsimp only at hSw)
            first | (go_simp; done) | (go_simp; with_reducible rfl) | with_reducible rfl
          simp only [Act.put, List.setIfInBounds_toArray, List.set_cons_zero, List.set_cons_succ]
          refine tk (v := ?_) 2 ?_ ?_
          rotate_left
          · intro w hSw
            (try dsimp only at hSw)
            first | (go_simp; done) | (go_simp; with_reducible rfl) | with_reducible rfl
          simp only [Act.put, List.setIfInBounds_toArray, List.set_cons_zero, List.set_cons_succ]
          refine tk (v := ?_) 3 ?_ ?_
          rotate_left
          · intro w hSw
            (try dsimp only at hSw)
            first | (go_simp; done) | (go_simp; with_reducible rfl) | with_reducible rfl
          simp only [Act.put, List.setIfInBounds_toArray, List.set_cons_zero, List.set_cons_succ]
          refine tk (v := ?_) 4 ?_ ?_
          rotate_left
          · intro w hSw
            (try dsimp only at hSw)
            first | (go_simp; done) | (go_simp; with_reducible rfl) | with_reducible rfl
          simp only [Act.put, List.setIfInBounds_toArray, List.set_cons_zero, List.set_cons_succ]
          refine tk (v := ?_) 5 ?_ ?_
          rotate_left
          · intro w hSw
            (try dsimp only at hSw)
            first | (go_simp; done) | (go_simp; with_reducible rfl) | with_reducible rfl
          simp only [Act.put, List.setIfInBounds_toArray, List.set_cons_zero, List.set_cons_succ]
          refine tk (v := ?_) 6 ?_ ?_
          rotate_left
          · intro w hSw
            (try dsimp only at hSw)
            first | (go_simp; done) | (go_simp; with_reducible rfl) | with_reducible rfl
          simp only [Act.put, List.setIfInBounds_toArray, List.set_cons_zero, List.set_cons_succ]
          refine tk (v := ?_) 7 ?_ ?_
          rotate_left
          · intro w hSw
            (try dsimp only at hSw)
            first | (go_simp; done) | (go_simp; with_reducible rfl) | with_reducible rfl
          simp only [Act.put, List.setIfInBounds_toArray, List.set_cons_zero, List.set_cons_succ]
          refine tk (v := ?_) 8 ?_ ?_
          rotate_left
          · intro w hSw
            (try dsimp only at hSw)
            first | (go_simp; done) | (go_simp; with_reducible rfl) | with_reducible rfl
          simp only [Act.put, List.setIfInBounds_toArray, List.set_cons_zero, List.set_cons_succ]
          refine tk (v := ?_) 9 ?_ ?_
          rotate_left
          · intro w hSw
            (try dsimp only at hSw)
            first | (go_simp; done) | (go_simp; with_reducible rfl) | with_reducible rfl
          simp only [Act.put, List.setIfInBounds_toArray, List.set_cons_zero, List.set_cons_succ]
          refine wpAnyH_ready (rs := [10]) (by kernel_rfl) (by simp) ?_
          refine AllReadyH.cons rfl (fun K hK => ?_) AllReadyH.nil
          go_simp
          (go_at_call 61; refine (HORD.out _ ((Mod.refl _ W6).drew)).mono ?_; rintro e w8 ⟨v8, rfl, ho8, n8⟩; have HO8 := hid ho8; have N8 : Hid (New W6 w8) := hid ((Mod.refl (fun _ => False) W6).drew.trans n8); clear ho8 n8)
          try dsimp only
          refine hK.out _ _ ⟨New.cellv N8.out m1, New.cellv N8.out r3, New.cellv N8.out y0⟩ (fun hHeld10 => ?_)
          clear hK K
          try simp only [Act.put, List.setIfInBounds_toArray, List.set_cons_zero, List.set_cons_succ]
          obtain ⟨a8, c8, rfl, hs8, hb8⟩ := HO8.out.strs
          obtain ⟨N2, hN2⟩ : ∃ N2, N2 = ordB N s := ⟨_, rfl⟩
          have HN2 := hid hN2
          rw [← hN2] at hs8 HSO ⊢
          have HS8 := hid hs8; have HB8 := hid hb8
          have B8 := hid (New.blk N8.out B6.out)
          have HNK2 := hid (HSO.out.len (by omega))
          have x1 := B8.out.cellv 1 rfl; have xl := B8.out.lt; have xf := B8.out.frz 1
          have s0 : ∀ u, (w8.setCell ⟨X, 1, none⟩ u).cell? ⟨MB, 1, none⟩ = some (.slice na N.length nc) := fun u => cell_off (by show MB ≠ X; have := HXM.out; omega) (New.cellv N8.out m1)
          have s1 : ∀ u, (w8.setCell ⟨X, 1, none⟩ u).cell? ⟨R, 3, none⟩ = some (.slice (some ⟨g, 0, none⟩) q.all.length ca) := fun u => cell_off (by show R ≠ X; have := HXM.out; have := R4.out.row.lt; omega) (New.cellv N8.out r3)
          have s2 : ∀ u, (w8.setCell ⟨X, 1, none⟩ u).cell? ⟨g, i * 2, none⟩ = some (.string s) := fun u => cell_off (by show g ≠ X; have := HX.out; have := HGW.out; omega) (New.cellv N8.out y0)
          clear hs8 hb8 hN2
          refine tk (v := ?_) 11 ?_ ?_
          rotate_left
          · intro w hSw
            (try dsimp only at hSw)
            first | (go_simp; done) | (go_simp; with_reducible rfl) | with_reducible rfl
          simp only [Act.put, List.setIfInBounds_toArray, List.set_cons_zero, List.set_cons_succ]
          refine wpAnyH_ready (rs := [12]) (by kernel_rfl) (by simp) ?_
          refine AllReadyH.cons (by simp only [List.getElem?_toArray, List.getElem?_cons_succ, List.getElem?_cons_zero]; rfl) (fun K hK => ?_) AllReadyH.nil
          go_simp
          refine hK.out _ _ ⟨s0 _, s1 _, s2 _⟩ (fun hHeld12 => ?_)
          clear hK K
          try simp only [Act.put, List.setIfInBounds_toArray, List.set_cons_zero, List.set_cons_succ]
          refine wpAnyH_done (by kernel_rfl) ?_ _
          refine name_worldC (p := fun W => Exit.then _ _ _ _ W) (fun W9 hW9 => ?_)
          have hm9 : Mod (fun k => k = X) w8 W9 := by
            rw [hW9]
            exact Mod.set (S := fun k => k = X) (Mod.refl _ _) ⟨X, 1, none⟩ _ (.inl rfl)
          have B9 : Hid (Blk W9 X #[.int .i64 q.port, .slice a8 N2.length c8, .string q.cook] 34) := hid (by rw [hW9]; exact (B8.out.set 1 _).row (by simp))
          have HM9 : Hid (Mod (fun k => k = X) W6 W9) := hid ((New.mod N8.out).trans hm9)
          have H89 : Hid (w8.heap.size ≤ W9.heap.size) := hid hm9.size
          have HN9 : Hid (New wr W9) := hid (N6.out.trans' HM9.out (fun z hz q => by have := HX.out; omega))
          have HE9 := hid (HE.out.new HN9.out)
          have HS9 : Hid (StrsAt W9 a8 c8 N2) := hid (HS8.out.ofBlock (fun x hx => hm9.block _ (HB8.out x hx).2 (by have h1 := (HB8.out x hx).1; have h2 := B6.out.lt; have h3 : (Mod.refl (fun _ => False) W6).drew.size = (Mod.refl (fun _ => False) W6).drew.size := rfl; simp at h1; omega)) hm9.size)
          have m4 : Hid (New w4 W9) := hid ((HE.out.mod.trans N6.out).trans' HM9.out (fun z hz q => by have := HXM.out.2; omega))
          clear hW9 hm9 x1 xl xf s0 s1 s2 hHeld hHeld10 hHeld12 m1 r3 y0 rl hgl ml
          have x1 := B9.out.cellv 1 rfl; have xl := B9.out.lt; have x0 := B9.out.cellv 0 rfl; have x2 := B9.out.cellv 2 rfl
          by_cases h21 : 20 < k + 1
          · have e3 : decide ((N2.length : Int) > 20) = true := decide_eq_true (by rw [HNK2.out]; omega)
            go_wp2_with fail
            have HFIN : Hid (D.take k = D.take 20) := hid (by rw [show k = 20 by omega])
            clear x0 x1 x2 xl hltI hil hilI e3
            have HDB2 : Hid (∀ x, aa = some x → x.block < MB ∧ R < x.block) := hid (fun x hx => by
              have h1 := R4.out.over _ (.inr (.inl ⟨x, hx, rfl⟩))
              have h2 := (R4.out.all.blk hx).1
              have h3 := HMB.out
              omega)
            have hk1 : 1 ≤ k := by
              rcases Nat.eq_zero_or_pos k with h0 | h0
              · have h9 := HFIN.out
                rw [h0] at h9
                have h10 := congrArg List.length h9
                rw [List.length_take, List.length_take] at h10
                have h11 : D.length ≠ 0 := fun z => g0 (List.eq_nil_of_length_eq_zero z)
                omega
              · exact h0
            have hvm : validM ⟨q.port, N, q.cook⟩ = true := asc_valid HO.out.port HO.out.cook.1 HE9.out.so.asc (HE9.out.so.size HO.out HDL.out) (by rw [HNK.out]; exact hk1) hNl
            have HVM := hid hvm
            have HTX := hid (fun W (hs : StrsAt W na nc N) (ht : Tab W) => text_any ⟨q.port, N, q.cook⟩ na nc W hvm hs ht)
            obtain ⟨OUT, hOUT⟩ : ∃ OUT, OUT = mkB (writtenL ⟨q.port, N, q.cook⟩) := ⟨_, rfl⟩
            rw [← hOUT] at HTX
            have HOUT := hid hOUT
            clear hvm hOUT
            go_loopw [99] (fun i wy => ∃ j : Nat, i = .int .i64 j ∧ j ≤ k ∧ PairAt wy (R + 1) 92 aa ca ((D.take j).foldl (putT t) q.all) ∧ Mod (fun z => ∃ x, aa = some x ∧ x.block = z) W9 wy) (fun i _ => k - (intOf i).toNat)
            case atStart => exact ⟨0, rfl, by omega, HE9.out.cr.all, Mod.refl _ _⟩
            case round =>
              obtain ⟨j, rfl, hj, hpa, hmm⟩ := hrel
              have HPA := hid hpa; have HMM := hid hmm
              have RB := hid (hmm.blk HE9.out.cr.row (by rintro ⟨x, hx, e⟩; have := HDB2.out x hx; omega))
              have TL : Hid (OwnI wr (MB + 1) (.slice ta k tc) (D.take k)) := hid (ownsP_mod HE9.out.tl hmm (fun z hz => by rintro ⟨x, hx, e⟩; have h1 := HDB2.out x hx; have h2 := (World.ownsRow.lt HE9.out.tl z hz).1; omega))
              have r3 : wr.cell? ⟨R, 3, none⟩ = some (.slice aa q.all.length ca) := RB.out.cellv 3 rfl
              have rl := RB.out.lt
              have hTl : (D.take k).length = k := by rw [HFIN.out, List.length_take]; have := congrArg List.length HFIN.out; rw [List.length_take, List.length_take] at this; omega
              have hpl := putT_len t (D.take j) q.all
              have hca := hpa.le; have hca2 := hpa.max
              rw [hpl] at hca
              unfold maxLen at hca2
              clear hmm
              by_cases hjk : j < k
              · have hjkI : (j : Int) < (k : Int) := by omega
                obtain ⟨i, hi⟩ : ∃ i, (D.take k)[j]? = some i := ⟨_, List.getElem?_eq_getElem (by omega)⟩
                have HNXT := hid (putT_next (t := t) (T := D) (k := j) (i := i) (by rw [List.getElem?_take, if_pos hjk] at hi; exact hi) q.all)
                have hil : i < q.all.length := HDL.out i (List.mem_of_mem_take (List.mem_of_getElem? hi))
                obtain ⟨tg, htg⟩ : ∃ tg, ta = some ⟨tg, 0, none⟩ := by
                  rcases TL.out.2 with ⟨-, hz⟩ | ⟨g9, cap9, cur9, e, -⟩
                  · omega
                  · injection e with e1; exact ⟨g9, e1⟩
                subst htg
                have d0 : wr.cell? ⟨tg, j, none⟩ = some (.int .i64 (i : Int)) := OwnI.cell TL.out hi
                obtain ⟨g, hg, hgl, -, y1, -, f1⟩ := hpa.get (i := i) (by rw [hpl]; exact hil)
                obtain ⟨v1, hv1⟩ : ∃ v1, wr.cell? ⟨g, i * 2 + 1, none⟩ = some v1 := ⟨_, y1⟩
                clear y1
                have HG2 := hid hg
                have HPU : Hid (PairAt (wr.setCell ⟨g, i * 2 + 1, none⟩ (.int .i64 t)) (R + 1) 92 aa ca ((D.take (j + 1)).foldl (putT t) q.all)) := hid (by
                  have h1 := HPA.out
                  rw [hg] at h1
                  have h2 := h1.put (i := i) (by rw [hpl]; exact hil) t
                  rw [HNXT.out, hg]
                  unfold putT at h2 ⊢
                  rw [List.getD_eq_getElem?_getD, List.getElem?_eq_getElem (by rw [← hpl] at hil; exact hil)]
                  exact h2)
                rw [hg] at r3
                have hilI : (i : Int) < (q.all.length : Int) := by omega
                clear hpa hi hpl hg hTl
                go_wp2_with fail
                go_roundw
                case rel => exact ⟨j + 1, by simp, by omega, HPU.out, HMM.out.set _ _ (.inl ⟨_, HG2.out, rfl⟩)⟩
                case measure => simp [intOf]; omega
              · have hjk2 : j = k := by omega
                have hjkI : ¬ (j : Int) < (k : Int) := by omega
                have HPB : Hid (PairAt wr (R + 1) 92 aa ca ((D.take 20).foldl (putT t) q.all)) := hid (by rw [← HFIN.out, ← hjk2]; exact hpa)
                have c6 : wr.cell? ⟨R, 6, none⟩ = some (.int .i64 q.sent) := RB.out.cellv 6 rfl
                have c7 : wr.cell? ⟨R, 7, none⟩ = some (.bool q.ever) := RB.out.cellv 7 rfl
                have f6 := RB.out.frz 6; have f7 := RB.out.frz 7
                have MS := hid (HMM.out.blk HE9.out.msg (by rintro ⟨x, hx, e⟩; have := (HDB2.out x hx).1; omega))
                have hRM : MB ≠ R := by have := R4.out.row.lt; have := HMB.out; omega
                have s0 : ∀ u v, ((wr.setCell ⟨R, 6, none⟩ u).setCell ⟨R, 7, none⟩ v).cell? ⟨MB, 0, none⟩ = some (.int .i64 q.port) := fun u v => cell_off hRM (cell_off hRM (MS.out.cellv 0 rfl))
                have s1 : ∀ u v, ((wr.setCell ⟨R, 6, none⟩ u).setCell ⟨R, 7, none⟩ v).cell? ⟨MB, 1, none⟩ = some (.slice na N.length nc) := fun u v => cell_off hRM (cell_off hRM (MS.out.cellv 1 rfl))
                have s2 : ∀ u v, ((wr.setCell ⟨R, 6, none⟩ u).setCell ⟨R, 7, none⟩ v).cell? ⟨MB, 2, none⟩ = some (.string q.cook) := fun u v => cell_off hRM (cell_off hRM (MS.out.cellv 2 rfl))
                have ml := MS.out.lt
                have HMR : Hid (∀ u v, Mod (fun z => z = R) wr ((wr.setCell ⟨R, 6, none⟩ u).setCell ⟨R, 7, none⟩ v)) := hid (fun u v => by
                  refine Mod.set (S := fun z => z = R) ?_ ⟨R, 7, none⟩ _ (.inl rfl)
                  exact Mod.set (S := fun z => z = R) (Mod.refl _ _) ⟨R, 6, none⟩ _ (.inl rfl))
                have HRL : Hid (R < MB) := hid (by have := R4.out.row.lt; have := HMB.out; omega)
                clear hpa hpl hTl hjk2 hRM
                go_wp2_with fail
                have MT : Hid (∀ u v, Mod (fun z => z = R ∨ ∃ x, aa = some x ∧ x.block = z) w ((wr.setCell ⟨R, 6, none⟩ u).setCell ⟨R, 7, none⟩ v)) := hid (fun u v => (((M4.out.mono (S' := fun z => z = R ∨ ∃ x, aa = some x ∧ x.block = z) (fun _ _ z => .inl z)).trans (New.mod HE9.out.mod)).trans' HMM.out (fun _ _ z => .inr z)).trans' (HMR.out u v) (fun _ _ z => .inl z))
                refine (HTX.out _ ?_ ?_).mono ?_
                · refine HE9.out.ns.ofBlock (fun x hx => ?_) (Nat.le_trans HMM.out.size (HMR.out _ _).size)
                  obtain ⟨b9, o9, e9, hb9, -⟩ := HE9.out.ns.get (by rw [HNK.out]; exact hk1)
                  rw [e9] at hx
                  injection hx with hx
                  have h1 := HE9.out.nb _ e9
                  rw [← hx]
                  refine ((HMR.out _ _).block _ (Nat.lt_of_lt_of_le hb9 HMM.out.size) (fun z => ?_)).trans (HMM.out.block _ hb9 ?_)
                  · have := HRL.out; simp only at h1 z; omega
                  · rintro ⟨x, hx, e⟩
                    have := (HDB2.out x hx).1
                    simp only at h1 e
                    omega
                · exact HTB.out _ (MT.out _ _)
                rintro e w9 ⟨rfl, n9⟩
                have N9 := hid n9
                clear n9
                go_wp2_with fail
                go_ret2
                have hN9 : Mod (fun z => z = R) wr w9 := (HMR.out _ _).trans (New.mod N9.out)
                have hR9 : Blk w9 R (rcRow aa ah ca ch (q.tellC t (D.take 20))) 89 := New.blk N9.out (((RB.out.set 6 _).set 7 _).row (by rw [HQ3.out]; simp [rcRow, RcV.tellC, putT_len]))
                have hRa : ∀ x, aa = some x → x.block ≠ R := fun x hx z => by have := (HDB2.out x hx).2; omega
                have hRc : RcAt w9 R aa ah ca ch (q.tellC t (D.take 20)) := ⟨hR9, HPB.out.mod hN9 (fun x hx => hRa x hx), ownsP_mod (ownsP_mod HE9.out.cr.heard HMM.out (fun z hz => ?_)) hN9 (fun z hz => ?_)⟩
                · have e9 := HQ3.out
                  subst e9
                  exact ⟨D, HPM2.out, HPW2.out, .inr ⟨g0, HNE.out, N, by rw [← HFIN.out]; exact HE9.out.so.perm, HVM.out, (by have e8 := HOUT.out; subst e8; rfl), hRc, (MT.out _ _).trans' N9.out (fun _ _ z => z.elim)⟩⟩
                · rintro ⟨x, hx, e⟩
                  cases ah with
                  | none => cases hz
                  | some y =>
                    injection hz with hz
                    exact HE9.out.cr.apart hx rfl (by rw [e, hz])
                · cases ah with
                  | none => cases hz
                  | some y =>
                    injection hz with hz
                    have := (HE9.out.cr.hears.blk rfl).1
                    omega
          · have e3 : decide ((N2.length : Int) > 20) = false := decide_eq_false (by rw [HNK2.out]; omega)
            have hvm : validM ⟨q.port, N2, q.cook⟩ = true := asc_valid HO.out.port HO.out.cook.1 HSO.out.asc (HSO.out.size HO.out HDL.out) (by rw [HNK2.out]; omega) (by rw [HNK2.out]; omega)
            have HTX := hid (text_any ⟨q.port, N2, q.cook⟩ a8 c8 W9 hvm HS9.out (HTB.out W9 ((M4.out.mono (fun _ _ z => .inl z)).trans (New.mod m4.out))))
            obtain ⟨OUT, hOUT⟩ : ∃ OUT, OUT = mkB (writtenL ⟨q.port, N2, q.cook⟩) := ⟨_, rfl⟩
            have hol : OUT.size ≤ 1400 := by rw [hOUT, mkB_size]; exact written_len hvm
            rw [← hOUT] at HTX
            have e4 : decide ((OUT.size : Int) > 1400) = false := decide_eq_false (by omega)
            have e5 : ¬ (1400 : Int) < (OUT.size : Int) := by omega
            have e6 : ¬ (20 : Int) < (N2.length : Int) := by rw [HNK2.out]; omega
            clear hvm hOUT
            go_wp2_with fail
            refine HTX.out.mono ?_
            rintro e w10 ⟨rfl, n10⟩
            have N10 := hid n10
            have x1 := New.cellv n10 x1; have x0 := New.cellv n10 x0; have x2 := New.cellv n10 x2
            have xl := Nat.lt_of_lt_of_le xl n10.size
            have H10 := hid (HE9.out.new n10)
            have k0 := H10.out.msg.cellv 0 rfl; have k1 := H10.out.msg.cellv 1 rfl; have k2 := H10.out.msg.cellv 2 rfl; have kl := H10.out.msg.lt
            have f0 := H10.out.msg.frz 0; have f1 := H10.out.msg.frz 1; have f2 := H10.out.msg.frz 2
            clear n10
            have hms : ∀ u v x, Mod (fun z => z = MB) w10 (((w10.setCell ⟨MB, 0, none⟩ u).setCell ⟨MB, 1, none⟩ v).setCell ⟨MB, 2, none⟩ x) := fun u v x => by
              refine Mod.set (S := fun z => z = MB) ?_ ⟨MB, 2, none⟩ _ (.inl rfl)
              refine Mod.set (S := fun z => z = MB) ?_ ⟨MB, 1, none⟩ _ (.inl rfl)
              exact Mod.set (S := fun z => z = MB) (Mod.refl _ _) ⟨MB, 0, none⟩ _ (.inl rfl)
            have HMS := hid hms
            have HTL : Hid (w10.ownsRow (MB + 1) 3 1 (.slice ta k tc) k (natRow (D.take k))) := hid (by
              have h1 := H10.out.tl
              unfold OwnI at h1
              rw [show (D.take k).length = k by rw [List.length_take]; omega] at h1
              exact h1)
            have HTX : Hid (∀ z, (Value.slice ta k tc).ownBlock = some z → MB + 1 ≤ z ∧ z < X) := hid (fun z hz => ⟨(World.ownsRow.lt HTL.out z hz).1, by rw [HX.out]; exact (World.ownsRow.lt HE.out.tl z hz).2⟩)
            have htc : k ≤ tc ∧ tc ≤ maxLen ∨ ta = none := by
              rcases HTL.out.2 with ⟨e, -⟩ | ⟨g9, cap9, cur9, e, -, -, h1, h2, -⟩
              · right; injection e
              · left; injection e with _ _ e3; rw [e3]; exact ⟨h1, h2⟩
            clear hms e3 e4 e5 e6 htc
            obtain ⟨i0, hi, hz0, hz1, hz2⟩ := info_parts info_int
            go_wp2_with (at_builtin; go_loud (refine wpList_append_own_at _ rfl _ _ 96 rfl (MB + 1) 3 i0 _ 1 8 Tryz.underlying96 hi hz0 hz1 hz2 rfl (by decide) (.slice ta k tc) k (natRow (D.take k)) rfl ?ow ⟨w10.heap.size, 0, none⟩ 1 1 [.int .i64 (i : Int)] rfl ?hl ?hn ?h1 ?h63 ?hby ?hba ?_))
            case ow => exact ownsP_new (ownsP_mod HTL.out (HMS.out _ _ _) (fun z hz => by have := (HTX.out z hz).1; omega)) ((Mod.refl _ _).alloc _)
            case hl => rfl
            try (case hn => exact fun j u hj => by rw [addP]; match j, hj with | 0, hj => simp at hj; subst hj; exact (Blk.newAt (by simp)).cellv 0 rfl)
            try (case h1 => first | rfl | (intro u hu; simp at hu; subst hu; rfl))
            case h63 => unfold maxLen; omega
            case hby => omega
            try (case hba => simp; omega)
            intro o2 w2 r2 g2 hne2 hob2
            have NF : Hid (New w4 w2) := hid (newGrownP ((H10.out.mod.trans' (HMS.out _ _ _) (fun z hz q => by have := HMB.out; omega)).alloc _) g2 (fun z hz => by have := (HTX.out z hz).1; have := HMB.out; omega))
            have HOB := hid hob2
            have hB : Blk (((w10.setCell ⟨MB, 0, none⟩ (.int .i64 q.port)).setCell ⟨MB, 1, none⟩ (.slice a8 N2.length c8)).setCell ⟨MB, 2, none⟩ (.string q.cook)) MB #[.int .i64 q.port, .slice a8 N2.length c8, .string q.cook] 34 := (((H10.out.msg.set 0 _).set 1 _).set 2 _).row (by simp)
            have hz6 : X < W6.heap.size := B6.out.lt
            have hlow : ∀ x, a8 = some x → W6.heap.size ≤ x.block ∧ x.block < w8.heap.size := HB8.out
            have hsA := HM9.out.size; have hsB := N10.out.size; have hs8 := N8.out.size
            have EF : Hid (RtE R aa ah ca ch q D (some ⟨dg, 0, none⟩) dc MB w3.heap.size w4 (k + 1) N2 a8 c8 o2 w2) := hid ⟨R4.out.new NF.out, ownsP_new HOW.out NF.out, (hB.alloc _).of_heap (g2.block MB (by simp; omega) (fun z => by have := (HTX.out MB z.symm).1; omega)), HS9.out.ofBlock (fun x hx => by
                have hxb := hlow x hx
                have hx9 : x.block < W9.heap.size := Nat.lt_of_lt_of_le hxb.2 H89.out
                have hx10 : x.block < w10.heap.size := Nat.lt_of_lt_of_le hx9 hsB
                have hXM := HXM.out.1
                refine (g2.block x.block (by simp; omega) (fun z => by have := (HTX.out _ z.symm).2; omega)).trans ?_
                refine (Below.heap_alloc _ _ _ (by simpa using hx10)).trans ?_
                exact ((HMS.out _ _ _).block x.block hx10 (by omega)).trans (N10.out.block x.block hx9 (fun q => q))) (by have := g2.size; simp at this; omega), fun x hx => by have := (hlow x hx).1; have := HXM.out.1; omega, by
                have h1 := r2
                unfold OwnI
                rw [show (D.take (k + 1)).length = k + 1 by rw [List.length_take]; omega, show natRow (D.take (k + 1)) = natRow (D.take k) ++ [.int .i64 (i : Int)] by rw [List.take_succ_eq_append_getElem hlt, natRow_app, (List.getElem?_eq_some_iff.1 HI.out).2]; rfl]
                exact h1, HSO.out, NF.out⟩
            clear r2 g2 hne2 hob2 hB hz6 hlow hsA hsB hs8
            go_wp2_with fail
            exact ⟨⟨k + 1, N2, a8, c8, _, by simp, rfl, by omega, by omega, EF.out⟩, by simp [intOf]; omega⟩
        · have hkD : k = D.length := by omega
          have hltI : ¬ (k : Int) < (D.length : Int) := by omega
          have HFIN : Hid (D.take k = D.take 20) := hid (by rw [List.take_of_length_le (by omega), List.take_of_length_le (by omega)])
          clear he hkD
          go_wp2_with fail
          have HDB2 : Hid (∀ x, aa = some x → x.block < MB ∧ R < x.block) := hid (fun x hx => by
            have h1 := R4.out.over _ (.inr (.inl ⟨x, hx, rfl⟩))
            have h2 := (R4.out.all.blk hx).1
            have h3 := HMB.out
            omega)
          have hk1 : 1 ≤ k := by
            rcases Nat.eq_zero_or_pos k with h0 | h0
            · have h9 := HFIN.out
              rw [h0] at h9
              have h10 := congrArg List.length h9
              rw [List.length_take, List.length_take] at h10
              have h11 : D.length ≠ 0 := fun z => g0 (List.eq_nil_of_length_eq_zero z)
              omega
            · exact h0
          have hvm : validM ⟨q.port, N, q.cook⟩ = true := asc_valid HO.out.port HO.out.cook.1 HE.out.so.asc (HE.out.so.size HO.out HDL.out) (by rw [HNK.out]; exact hk1) hNl
          have HVM := hid hvm
          have HTX := hid (fun W (hs : StrsAt W na nc N) (ht : Tab W) => text_any ⟨q.port, N, q.cook⟩ na nc W hvm hs ht)
          obtain ⟨OUT, hOUT⟩ : ∃ OUT, OUT = mkB (writtenL ⟨q.port, N, q.cook⟩) := ⟨_, rfl⟩
          rw [← hOUT] at HTX
          have HOUT := hid hOUT
          clear hvm hOUT
          go_loopw [99] (fun i wy => ∃ j : Nat, i = .int .i64 j ∧ j ≤ k ∧ PairAt wy (R + 1) 92 aa ca ((D.take j).foldl (putT t) q.all) ∧ Mod (fun z => ∃ x, aa = some x ∧ x.block = z) wr wy) (fun i _ => k - (intOf i).toNat)
          case atStart => exact ⟨0, rfl, by omega, HE.out.cr.all, Mod.refl _ _⟩
          case round =>
            obtain ⟨j, rfl, hj, hpa, hmm⟩ := hrel
            have HPA := hid hpa; have HMM := hid hmm
            have RB := hid (hmm.blk HE.out.cr.row (by rintro ⟨x, hx, e⟩; have := HDB2.out x hx; omega))
            have TL : Hid (OwnI wr (MB + 1) (.slice ta k tc) (D.take k)) := hid (ownsP_mod HE.out.tl hmm (fun z hz => by rintro ⟨x, hx, e⟩; have h1 := HDB2.out x hx; have h2 := (World.ownsRow.lt HE.out.tl z hz).1; omega))
            have r3 : wr.cell? ⟨R, 3, none⟩ = some (.slice aa q.all.length ca) := RB.out.cellv 3 rfl
            have rl := RB.out.lt
            have hTl : (D.take k).length = k := by rw [HFIN.out, List.length_take]; have := congrArg List.length HFIN.out; rw [List.length_take, List.length_take] at this; omega
            have hpl := putT_len t (D.take j) q.all
            have hca := hpa.le; have hca2 := hpa.max
            rw [hpl] at hca
            unfold maxLen at hca2
            clear hmm
            by_cases hjk : j < k
            · have hjkI : (j : Int) < (k : Int) := by omega
              obtain ⟨i, hi⟩ : ∃ i, (D.take k)[j]? = some i := ⟨_, List.getElem?_eq_getElem (by omega)⟩
              have HNXT := hid (putT_next (t := t) (T := D) (k := j) (i := i) (by rw [List.getElem?_take, if_pos hjk] at hi; exact hi) q.all)
              have hil : i < q.all.length := HDL.out i (List.mem_of_mem_take (List.mem_of_getElem? hi))
              obtain ⟨tg, htg⟩ : ∃ tg, ta = some ⟨tg, 0, none⟩ := by
                rcases TL.out.2 with ⟨-, hz⟩ | ⟨g9, cap9, cur9, e, -⟩
                · omega
                · injection e with e1; exact ⟨g9, e1⟩
              subst htg
              have d0 : wr.cell? ⟨tg, j, none⟩ = some (.int .i64 (i : Int)) := OwnI.cell TL.out hi
              obtain ⟨g, hg, hgl, -, y1, -, f1⟩ := hpa.get (i := i) (by rw [hpl]; exact hil)
              obtain ⟨v1, hv1⟩ : ∃ v1, wr.cell? ⟨g, i * 2 + 1, none⟩ = some v1 := ⟨_, y1⟩
              clear y1
              have HG2 := hid hg
              have HPU : Hid (PairAt (wr.setCell ⟨g, i * 2 + 1, none⟩ (.int .i64 t)) (R + 1) 92 aa ca ((D.take (j + 1)).foldl (putT t) q.all)) := hid (by
                have h1 := HPA.out
                rw [hg] at h1
                have h2 := h1.put (i := i) (by rw [hpl]; exact hil) t
                rw [HNXT.out, hg]
                unfold putT at h2 ⊢
                rw [List.getD_eq_getElem?_getD, List.getElem?_eq_getElem (by rw [← hpl] at hil; exact hil)]
                exact h2)
              rw [hg] at r3
              have hilI : (i : Int) < (q.all.length : Int) := by omega
              clear hpa hi hpl hg hTl
              go_wp2_with fail
              go_roundw
              case rel => exact ⟨j + 1, by simp, by omega, HPU.out, HMM.out.set _ _ (.inl ⟨_, HG2.out, rfl⟩)⟩
              case measure => simp [intOf]; omega
            · have hjk2 : j = k := by omega
              have hjkI : ¬ (j : Int) < (k : Int) := by omega
              have HPB : Hid (PairAt wr (R + 1) 92 aa ca ((D.take 20).foldl (putT t) q.all)) := hid (by rw [← HFIN.out, ← hjk2]; exact hpa)
              have c6 : wr.cell? ⟨R, 6, none⟩ = some (.int .i64 q.sent) := RB.out.cellv 6 rfl
              have c7 : wr.cell? ⟨R, 7, none⟩ = some (.bool q.ever) := RB.out.cellv 7 rfl
              have f6 := RB.out.frz 6; have f7 := RB.out.frz 7
              have MS := hid (HMM.out.blk HE.out.msg (by rintro ⟨x, hx, e⟩; have := (HDB2.out x hx).1; omega))
              have hRM : MB ≠ R := by have := R4.out.row.lt; have := HMB.out; omega
              have s0 : ∀ u v, ((wr.setCell ⟨R, 6, none⟩ u).setCell ⟨R, 7, none⟩ v).cell? ⟨MB, 0, none⟩ = some (.int .i64 q.port) := fun u v => cell_off hRM (cell_off hRM (MS.out.cellv 0 rfl))
              have s1 : ∀ u v, ((wr.setCell ⟨R, 6, none⟩ u).setCell ⟨R, 7, none⟩ v).cell? ⟨MB, 1, none⟩ = some (.slice na N.length nc) := fun u v => cell_off hRM (cell_off hRM (MS.out.cellv 1 rfl))
              have s2 : ∀ u v, ((wr.setCell ⟨R, 6, none⟩ u).setCell ⟨R, 7, none⟩ v).cell? ⟨MB, 2, none⟩ = some (.string q.cook) := fun u v => cell_off hRM (cell_off hRM (MS.out.cellv 2 rfl))
              have ml := MS.out.lt
              have HMR : Hid (∀ u v, Mod (fun z => z = R) wr ((wr.setCell ⟨R, 6, none⟩ u).setCell ⟨R, 7, none⟩ v)) := hid (fun u v => by
                refine Mod.set (S := fun z => z = R) ?_ ⟨R, 7, none⟩ _ (.inl rfl)
                exact Mod.set (S := fun z => z = R) (Mod.refl _ _) ⟨R, 6, none⟩ _ (.inl rfl))
              have HRL : Hid (R < MB) := hid (by have := R4.out.row.lt; have := HMB.out; omega)
              clear hpa hpl hTl hjk2 hRM
              go_wp2_with fail
              have MT : Hid (∀ u v, Mod (fun z => z = R ∨ ∃ x, aa = some x ∧ x.block = z) w ((wr.setCell ⟨R, 6, none⟩ u).setCell ⟨R, 7, none⟩ v)) := hid (fun u v => (((M4.out.mono (S' := fun z => z = R ∨ ∃ x, aa = some x ∧ x.block = z) (fun _ _ z => .inl z)).trans (New.mod HE.out.mod)).trans' HMM.out (fun _ _ z => .inr z)).trans' (HMR.out u v) (fun _ _ z => .inl z))
              refine (HTX.out _ ?_ ?_).mono ?_
              · refine HE.out.ns.ofBlock (fun x hx => ?_) (Nat.le_trans HMM.out.size (HMR.out _ _).size)
                obtain ⟨b9, o9, e9, hb9, -⟩ := HE.out.ns.get (by rw [HNK.out]; exact hk1)
                rw [e9] at hx
                injection hx with hx
                have h1 := HE.out.nb _ e9
                rw [← hx]
                refine ((HMR.out _ _).block _ (Nat.lt_of_lt_of_le hb9 HMM.out.size) (fun z => ?_)).trans (HMM.out.block _ hb9 ?_)
                · have := HRL.out; simp only at h1 z; omega
                · rintro ⟨x, hx, e⟩
                  have := (HDB2.out x hx).1
                  simp only at h1 e
                  omega
              · exact HTB.out _ (MT.out _ _)
              rintro e w9 ⟨rfl, n9⟩
              have N9 := hid n9
              clear n9
              go_wp2_with fail
              go_ret2
              have hN9 : Mod (fun z => z = R) wr w9 := (HMR.out _ _).trans (New.mod N9.out)
              have hR9 : Blk w9 R (rcRow aa ah ca ch (q.tellC t (D.take 20))) 89 := New.blk N9.out (((RB.out.set 6 _).set 7 _).row (by rw [HQ3.out]; simp [rcRow, RcV.tellC, putT_len]))
              have hRa : ∀ x, aa = some x → x.block ≠ R := fun x hx z => by have := (HDB2.out x hx).2; omega
              have hRc : RcAt w9 R aa ah ca ch (q.tellC t (D.take 20)) := ⟨hR9, HPB.out.mod hN9 (fun x hx => hRa x hx), ownsP_mod (ownsP_mod HE.out.cr.heard HMM.out (fun z hz => ?_)) hN9 (fun z hz => ?_)⟩
              · have e9 := HQ3.out
                subst e9
                exact ⟨D, HPM2.out, HPW2.out, .inr ⟨g0, HNE.out, N, by rw [← HFIN.out]; exact HE.out.so.perm, HVM.out, (by have e8 := HOUT.out; subst e8; rfl), hRc, (MT.out _ _).trans' N9.out (fun _ _ z => z.elim)⟩⟩
              · rintro ⟨x, hx, e⟩
                cases ah with
                | none => cases hz
                | some y =>
                  injection hz with hz
                  exact HE.out.cr.apart hx rfl (by rw [e, hz])
              · cases ah with
                | none => cases hz
                | some y =>
                  injection hz with hz
                  have := (HE.out.cr.hears.blk rfl).1
                  omega
end Go.Proofs.YtnflhjagmngimaaGreatDoor
