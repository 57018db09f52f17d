/-
  Several texts in one, in their build order. A range over a map that a call has made and whose rounds leave it alone: the start, the step, what has come when nothing is left. Over any program. No condition. A crier's turns in plain words: when a name is due, when the next message is to be sent, and that no name waits longer than its time and a second for each name. Plain Lean, no program. No condition. Whether a text is in a list of texts. Plain Lean. No condition.
-/
import Derived.Test.YtnflhjagmngimaaGreatDoorM1
import Derived.Maps.RangeWalk
import Derived.Test.YtnflhjagmngimaaGreatDoorRows
import Derived.Laws.Strings
import Derived.WideShapes
namespace Go.Proofs.YtnflhjagmngimaaGreatDoor
set_option linter.unusedSimpArgs false
set_option linter.unusedVariables false
open Go.RowKit Go.MapKept

/-- Block r is the iterator of a range over the map in block bm, whose entries are L; those of done have come. -/
def IterL (w : World) (r bm : Nat) (d : TypeDesc) (L done : List (Value × Value)) : Prop :=
  ∃ es clock seen c0, w.heap[bm]? = some (.map es clock) ∧ Stamped es clock ∧ (∀ x ∈ es.toList, IsKey d x.key) ∧ es.toList.map (fun x => (x.key, x.val)) = L ∧
    w.heap[r]? = some (.mapIter (some bm) clock seen c0) ∧ clock ≤ c0 ∧ ((leftOf es seen).toList.map (fun x => (x.key, x.val)) ++ done).Perm L
theorem IterL.of_heap {w w' : World} {r bm : Nat} {d : TypeDesc} {L done : List (Value × Value)} (h : IterL w r bm d L done) (e1 : w'.heap[bm]? = w.heap[bm]?) (e2 : w'.heap[r]? = w.heap[r]?) : IterL w' r bm d L done := by
  obtain ⟨es, clock, seen, c0, h1, h2, h3, h4, h5, h6⟩ := h
  exact ⟨es, clock, seen, c0, e1.trans h1, h2, h3, h4, e2.trans h5, h6⟩
theorem IterL.lt {w : World} {r bm : Nat} {d : TypeDesc} {L done : List (Value × Value)} (h : IterL w r bm d L done) : bm < w.heap.size ∧ r < w.heap.size := by
  obtain ⟨es, clock, seen, c0, h1, -, -, -, h5, -⟩ := h
  exact ⟨(Array.getElem?_eq_some_iff.1 h1).1, (Array.getElem?_eq_some_iff.1 h5).1⟩
theorem IterL.mod {T : Nat → Prop} {w w' : World} {r bm : Nat} {d : TypeDesc} {L done : List (Value × Value)} (h : IterL w r bm d L done) (hm : Mod T w w') (h1 : ¬ T bm) (h2 : ¬ T r) : IterL w' r bm d L done :=
  h.of_heap (hm.block bm h.lt.1 h1) (hm.block r h.lt.2 h2)
theorem IterL.map {w : World} {r bm : Nat} {d : TypeDesc} {L done : List (Value × Value)} (h : IterL w r bm d L done) : MapL w bm d L := by
  obtain ⟨es, clock, seen, c0, h1, h2, h3, h4, -⟩ := h
  exact ⟨es, clock, h1, h2, h3, h4⟩
theorem IterL.len {w : World} {r bm : Nat} {d : TypeDesc} {L done : List (Value × Value)} (h : IterL w r bm d L done) : w.rangeLeft bm r + done.length = L.length := by
  obtain ⟨es, clock, seen, c0, h1, h2, h3, h4, h5, h6, h7⟩ := h
  have := h7.length_eq
  simp only [List.length_append, List.length_map, Array.length_toList] at this
  simp only [World.rangeLeft, h1, h5]
  exact this
theorem inj_of_nodup {α β : Type} {f : α → β} : ∀ {l : List α}, (l.map f).Nodup → ∀ {x y : α}, x ∈ l → y ∈ l → f x = f y → x = y
  | [], _, _, _, hx, _, _ => by cases hx
  | a :: l, hn, x, y, hx, hy, e => by
    obtain ⟨h1, h2⟩ := List.nodup_cons.1 hn
    rcases List.mem_cons.1 hx with qx | hx2
    · rcases List.mem_cons.1 hy with qy | hy2
      · rw [qx, qy]
      · exact absurd (List.mem_map.2 ⟨y, hy2, by rw [← e, qx]⟩) h1
    · rcases List.mem_cons.1 hy with qy | hy2
      · exact absurd (List.mem_map.2 ⟨x, hx2, by rw [e, qy]⟩) h1
      · exact inj_of_nodup h2 hx2 hy2 e
theorem perm_filter_take {α : Type} (p q : α → Bool) (e : α) (hp : p e = true) (hq : q e = false) : ∀ (l : List α), e ∈ l → l.Nodup → (∀ x ∈ l, x ≠ e → p x = q x) → (l.filter p).Perm (e :: l.filter q)
  | [], he, _, _ => by cases he
  | x :: l, he, hn, hpq => by
    obtain ⟨hn1, hn2⟩ := List.nodup_cons.1 hn
    rcases List.mem_cons.1 he with rfl | he
    · rw [List.filter_cons, if_pos hp, List.filter_cons, hq]
      simp only [Bool.false_eq_true, if_false]
      have e1 : l.filter p = l.filter q := List.filter_congr fun y hy => hpq y (List.mem_cons_of_mem _ hy) (fun q => hn1 (q ▸ hy))
      rw [e1]
    · have ih := perm_filter_take p q e hp hq l he hn2 (fun y hy => hpq y (List.mem_cons_of_mem _ hy))
      have hxe : x ≠ e := fun q => hn1 (q ▸ he)
      have hx := hpq x List.mem_cons_self hxe
      rw [List.filter_cons, List.filter_cons, hx]
      by_cases hqx : q x = true
      · rw [if_pos hqx, if_pos hqx]
        exact (List.Perm.cons x ih).trans (List.Perm.swap _ _ _)
      · rw [if_neg hqx, if_neg hqx]
        exact ih
section
variable {P : Program} {w : World} {bm : Nat} {d : TypeDesc} {L : List (Value × Value)} {t k e : TypeId}
theorem MapL.iter (h : MapL w bm d L) (ht : P.underlying t = some (.map k e)) :
    ∃ o, (Instr.range t (.map (some bm))).run P w = .ok (.pointer (some ⟨w.heap.size, 0, none⟩)) (w.alloc o) ∧ IterL (w.alloc o) w.heap.size bm d L [] := by
  obtain ⟨es, clock, hb, hs, hk, hL⟩ := h
  refine ⟨_, run_range_map w t k e bm es clock ht hb, es, clock, #[], clock, ?_, hs, hk, hL, heap_alloc_new _ _, Nat.le_refl _, ?_⟩
  · rw [heap_alloc_old w _ (Array.getElem?_eq_some_iff.1 hb).1]; exact hb
  · have e1 : leftOf es #[] = es := by
      unfold leftOf
      exact Array.filter_eq_self.2 (fun x hx => by simp)
    rw [e1, hL, List.append_nil]
theorem IterL.next {r : Nat} {done : List (Value × Value)} (h : IterL w r bm d L done) (hne : r ≠ bm) (ty : TypeId) :
    (done.Perm L ∧ (Instr.next (.pointer (some ⟨r, 0, none⟩)) false ty).run P w = .ok (.tuple #[.bool false]) w) ∨
    ∃ (x : Value × Value) (w' : World), x ∈ L ∧ (Instr.next (.pointer (some ⟨r, 0, none⟩)) false ty).run P w = .ok (.tuple #[.bool true, x.1, x.2]) w' ∧ IterL w' r bm d L (done ++ [x]) ∧ Mod (· = r) w w' ∧ w'.rangeLeft bm r < w.rangeLeft bm r ∧ (Instr.entry (.pointer (some ⟨r, 0, none⟩))).run P w' = .ok (.tuple #[x.1, x.2]) w' := by
  have hlen := h.len
  obtain ⟨es, clock, seen, c0, hb, hs, hk, hL, hr, hc, hp⟩ := h
  rcases run_next_at (P := P) w ty r bm clock c0 seen es clock hr hb hs.1 hc with ⟨h0, hrun⟩ | ⟨x, hx, w1, hw1, hrun⟩
  · refine .inl ⟨?_, hrun⟩
    have e0 : leftOf es seen = #[] := Array.eq_empty_of_size_eq_zero h0
    rw [e0] at hp
    simpa using hp
  · obtain ⟨hxe, hxs⟩ := mem_left hx
    have hw1h : w1.heap = w.heap := by rcases hw1 with rfl | rfl <;> rfl
    have hlt := (Array.getElem?_eq_some_iff.1 hr).1
    have hmod : Mod (· = r) w (Go.ChangeMaps.setBlock w1 r (.mapIter (some bm) clock (seen.push x.born) clock)) := by
      refine ⟨?_, ?_, ?_, ?_, fun j hj hn => ?_⟩
      · rcases hw1 with rfl | rfl <;> rfl
      · rcases hw1 with rfl | rfl <;> rfl
      · rcases hw1 with rfl | rfl <;> rfl
      · show _ ≤ (w1.heap.setIfInBounds r _).size
        rw [Array.size_setIfInBounds, hw1h]
        exact Nat.le_refl _
      · show (w1.heap.setIfInBounds r _)[j]? = _
        rw [Array.getElem?_setIfInBounds_ne (fun q => hn q.symm), hw1h]
    have hit : IterL (Go.ChangeMaps.setBlock w1 r (.mapIter (some bm) clock (seen.push x.born) clock)) r bm d L (done ++ [(x.key, x.val)]) := by
      refine ⟨es, clock, seen.push x.born, clock, ?_, hs, hk, hL, ?_, Nat.le_refl _, ?_⟩
      · show (w1.heap.setIfInBounds r _)[bm]? = _
        rw [Array.getElem?_setIfInBounds_ne hne, hw1h]
        exact hb
      · show (w1.heap.setIfInBounds r _)[r]? = _
        rw [Array.getElem?_setIfInBounds_self_of_lt (by rw [hw1h]; exact hlt)]
      · have hnd : es.toList.Nodup := by
          have := hs.2.1
          exact (List.pairwise_map.1 this).imp (fun {a b} q e => q (congrArg MapEntry.born e))
        have e1 : ∀ (p : MapEntry → Bool), (es.filter p).toList = es.toList.filter p := fun p => Array.toList_filter
        have hpt := perm_filter_take (fun y : MapEntry => !seen.contains y.born) (fun y => !(seen.push x.born).contains y.born) x (by rw [hxs]; rfl) (by rw [contains_push, beq_self_eq_true, Bool.or_true]; rfl) es.toList hxe hnd (fun y hy hyx => by
          rw [contains_push]
          have : (y.born == x.born) = false := by
            rw [beq_eq_false_iff_ne]
            intro q
            exact hyx (inj_of_nodup hs.2.1 hy hxe q)
          rw [this, Bool.or_false])
        unfold leftOf at hp ⊢
        rw [e1] at hp ⊢
        have h2 := (hpt.map (fun y : MapEntry => (y.key, y.val))).append_right done
        refine List.Perm.trans ?_ (h2.symm.trans hp)
        rw [List.map_cons, ← List.append_assoc]
        exact List.perm_append_comm
    refine .inr ⟨(x.key, x.val), _, ?_, hrun, hit, hmod, ?_, ?_⟩
    · rw [← hL]; exact List.mem_map.2 ⟨x, hxe, rfl⟩
    · have := hit.len
      rw [List.length_append, List.length_singleton] at this
      omega
    · refine run_entry_at _ r bm clock seen es clock x ?_ ?_ hxe hs.2.1
      · show (w1.heap.setIfInBounds r _)[r]? = _
        rw [Array.getElem?_setIfInBounds_self_of_lt (by rw [hw1h]; exact hlt)]
      · show (w1.heap.setIfInBounds r _)[bm]? = _
        rw [Array.getElem?_setIfInBounds_ne hne, hw1h]
        exact hb
end
end Go.Proofs.YtnflhjagmngimaaGreatDoor

namespace Go.Proofs.YtnflhjagmngimaaGreatDoor
set_option linter.unusedSimpArgs false
set_option linter.unusedVariables false

/-- When a name that was sent at x is due again. -/
def dueT (every x : Int) : Int := if x < 0 then 0 else x + every
/-- When the next message is to be sent: x is when the first name was sent, sent when the last message was sent. -/
def whenT (every sent now x : Int) : Int := if 0 ≤ sent then max (max now (dueT every x)) (sent + 1000) else max now (dueT every x)
theorem dueT_mono {every x y : Int} (he : 0 ≤ every) (h : x ≤ y) : dueT every x ≤ dueT every y := by
  unfold dueT
  split <;> split <;> omega
/-- How many names were sent at that time or before it. -/
def rankT (l : List ByteArray) (last : ByteArray → Int) (x : Int) : Nat := l.countP fun m => decide (last m ≤ x)
theorem rankT_le (l : List ByteArray) (last : ByteArray → Int) (x : Int) : rankT l last x ≤ l.length := List.countP_le_length
theorem countP_less {α : Type} (p q : α → Bool) : ∀ (l : List α), (∀ x ∈ l, q x = true → p x = true) → (∃ x ∈ l, p x = true ∧ q x = false) → l.countP q + 1 ≤ l.countP p
  | [], _, ⟨x, hx, _⟩ => by cases hx
  | a :: l, h, ⟨x, hx, hp, hq⟩ => by
    have hm : ∀ (l : List α), (∀ x ∈ l, q x = true → p x = true) → l.countP q ≤ l.countP p := by
      intro l
      induction l with
      | nil => intro _; simp
      | cons b l ih =>
        intro h
        have h1 := ih (fun x hx => h x (List.mem_cons_of_mem _ hx))
        have h2 := h b List.mem_cons_self
        rw [List.countP_cons, List.countP_cons]
        cases e1 : q b <;> cases e2 : p b <;> simp_all <;> omega
    have ha := h a List.mem_cons_self
    rw [List.countP_cons, List.countP_cons]
    rcases List.mem_cons.1 hx with rfl | hx
    · have := hm l (fun x hx => h x (List.mem_cons_of_mem _ hx))
      rw [hp, hq]
      simp
      omega
    · have := countP_less p q l (fun x hx => h x (List.mem_cons_of_mem _ hx)) ⟨x, hx, hp, hq⟩
      cases e1 : q a <;> cases e2 : p a <;> simp_all <;> omega
/-- What holds behind each turn. -/
structure FairT (l : List ByteArray) (every : Int) (last : ByteArray → Int) (sent now : Int) : Prop where
  sent : (sent = now ∧ 0 ≤ now) ∨ (sent = -1 ∧ now = 0 ∧ ∀ n ∈ l, last n = -1)
  lo : ∀ n ∈ l, -1 ≤ last n
  hi : ∀ n ∈ l, last n ≤ now
  wait : ∀ n ∈ l, now + 1000 * (rankT l last (last n) : Int) ≤ dueT every (last n) + 1000 * (l.length : Int)
theorem FairT.step {l : List ByteArray} {every : Int} {last : ByteArray → Int} {sent now : Int} (h : FairT l every last sent now) (he : 0 ≤ every) {f : ByteArray} (hf : f ∈ l) (hmin : ∀ m ∈ l, last f ≤ last m)
    {T : List ByteArray} (hT : ∃ m, m ∈ T ∧ m ∈ l) (hord : ∀ n ∈ l, n ∉ T → dueT every (last n) ≤ whenT every sent now (last f) → ∀ m ∈ T, last m ≤ last n)
    {last' : ByteArray → Int} (hin : ∀ n ∈ l, n ∈ T → last' n = whenT every sent now (last f)) (hout : ∀ n ∈ l, n ∉ T → last' n = last n) :
    FairT l every last' (whenT every sent now (last f)) (whenT every sent now (last f)) := by
  have hnow : now ≤ whenT every sent now (last f) := by unfold whenT; split <;> omega
  have h0 : 0 ≤ now := by rcases h.sent with ⟨-, q⟩ | ⟨-, q, -⟩ <;> omega
  have ht1 : ∀ n ∈ l, sent = now → last n < whenT every sent now (last f) := by
    intro n hn q
    have := h.hi n hn
    unfold whenT
    rw [if_pos (by omega)]
    omega
  generalize ht : whenT every sent now (last f) = t at hnow hord ht1 hin
  refine ⟨.inl ⟨rfl, by omega⟩, fun n hn => ?_, fun n hn => ?_, fun n hn => ?_⟩
  · have := h.lo n hn
    by_cases q : n ∈ T
    · rw [hin n hn q]; omega
    · rw [hout n hn q]; omega
  · have := h.hi n hn
    by_cases q : n ∈ T
    · rw [hin n hn q]; omega
    · rw [hout n hn q]; omega
  · have hr := rankT_le l last' (last' n)
    by_cases hnT : n ∈ T
    · have e : last' n = t := hin n hn hnT
      rw [e] at hr ⊢
      unfold dueT
      split <;> omega
    · have e : last' n = last n := hout n hn hnT
      rw [e] at hr ⊢
      by_cases hd : dueT every (last n) ≤ t
      · obtain ⟨m0, hm0, hml⟩ := hT
        have ho := hord n hn hnT hd
        have hlast : last n < t := by
          rcases h.sent with ⟨q, -⟩ | ⟨q, q2, q3⟩
          · exact ht1 n hn q
          · rw [q3 n hn]; omega
        have hdec : rankT l last' (last n) + 1 ≤ rankT l last (last n) := by
          refine countP_less _ _ l (fun x hx hq => ?_) ⟨m0, hml, ?_, ?_⟩
          · have hq := of_decide_eq_true hq
            by_cases q : x ∈ T
            · rw [hin x hx q] at hq; omega
            · rw [hout x hx q] at hq; exact decide_eq_true hq
          · exact decide_eq_true (ho m0 hm0)
          · refine decide_eq_false ?_
            have e2 : last' m0 = t := hin m0 hml hm0
            rw [e2]
            omega
        have hw := h.wait n hn
        have hdf := dueT_mono he (hmin n hn)
        have hrl := rankT_le l last (last n)
        have hle : t ≤ max (max now (dueT every (last f))) (now + 1000) := by
          rw [← ht]
          unfold whenT
          rcases h.sent with ⟨q, q1⟩ | ⟨q, q2, q3⟩
          · rw [if_pos (by omega)]
            omega
          · rw [if_neg (by omega)]
            omega
        omega
      · omega
theorem FairT.end {l : List ByteArray} {every : Int} {last : ByteArray → Int} {sent now : Int} (h : FairT l every last sent now) {n : ByteArray} (hn : n ∈ l) (he : 0 ≤ every) : (0 ≤ last n → now - last n ≤ every + 1000 * l.length) ∧ (last n < 0 → now ≤ every + 1000 * l.length) := by
  have := h.wait n hn
  unfold dueT at this
  constructor
  · intro q
    rw [if_neg (by omega)] at this
    omega
  · intro q
    rw [if_pos q] at this
    omega
end Go.Proofs.YtnflhjagmngimaaGreatDoor

namespace Go.Proofs.YtnflhjagmngimaaGreatDoor
theorem bytes_ext {a b : ByteArray} (h : a.data.toList = b.data.toList) : a = b := by
  obtain ⟨⟨a⟩⟩ := a
  obtain ⟨⟨b⟩⟩ := b
  simp at h
  rw [h]
/-- As the walk compares a text with a written one. -/
theorem lit_eq (s : ByteArray) (l : List UInt8) : (s.toList == l) = decide (s = ⟨l.toArray⟩) := by
  rw [ByteArray.toList_eq, Bool.eq_iff_iff]
  simp only [beq_iff_eq, decide_eq_true_eq]
  constructor
  · intro h
    exact bytes_ext (by rw [h])
  · rintro rfl
    rfl
theorem two_eq (s t : ByteArray) : (s.toList == t.toList) = decide (s = t) := by
  rw [lit_eq, ByteArray.toList_eq]
end Go.Proofs.YtnflhjagmngimaaGreatDoor
