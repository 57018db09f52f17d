/-
  Several texts in one, in their build order. The walks of at and Next (package web): what is to be got now. Conditions: the client lies as told. A client written: its time, a seed, its field, its map. Plain facts over the program. No condition.
-/
import Derived.Test.YtnhgichiedninaaGreatDoorM9
import Derived.Deep.QuietTactic
namespace Go.Proofs.YtnhgichiedninaaGreatDoor
set_option linter.unusedSimpArgs false
set_option linter.unusedVariables false
open Go.RowKit Go.Shelf

def CliV.atE (c : CliV) (now : Int) : Int := if now < c.now ∨ 1000000000 < now then 7 else 0
set_option maxRecDepth 100000 in
set_option maxHeartbeats 1000000 in
theorem cat_any (B SB cap MB : Nat) (ps : List Nat) (c : CliV) (G : List (Value × Value)) (now : Int) (w : World) (h : CliAt w B SB cap MB ps c G) :
    Calls Tryz.prog 36 #[.pointer (some ⟨B, 0, none⟩), .int .i64 now] w fun e w' => e = .returned (.int .i64 (c.atE now)) ∧ w = w' := by
  have c4 := h.row.cellv 4 rfl; have cl := h.row.lt
  obtain ⟨R, hR⟩ : ∃ R, R = c.atE now := ⟨_, rfl⟩
  rw [← hR]
  unfold CliV.atE at hR
  clear h
  by_cases h1 : now < c.now
  · rw [if_pos (.inl h1)] at hR
    have HR := hid hR
    clear hR
    go_enter Tryz.func36, Tryz.ntmps36
    go_wp2
    go_ret
    exact ⟨ret_int HR.out.symm, rfl⟩
  · by_cases h2 : 1000000000 < now
    · rw [if_pos (.inr h2)] at hR
      have HR := hid hR
      clear hR
      go_enter Tryz.func36, Tryz.ntmps36
      go_wp2
      go_ret
      exact ⟨ret_int HR.out.symm, rfl⟩
    · rw [if_neg (by omega)] at hR
      have HR := hid hR
      clear hR
      go_enter Tryz.func36, Tryz.ntmps36
      go_wp2
      go_ret
      exact ⟨ret_int HR.out.symm, rfl⟩
/-- The seed that is asked next. -/
def CliV.nIdx (c : CliV) (now : Int) : Option Nat := c.seeds.findIdx? (freeS now)
def SeedV.start (s : SeedV) (a b : Int) : SeedV := ⟨a, b, true, s.fails, s.bad, s.after, s.out⟩
/-- What Next answers, and how the client then is. -/
def CliV.nextE (c : CliV) (now : Int) : Int := if c.atE now ≠ 0 then c.atE now else if c.best.isSome && (c.nIdx now).isSome then 0 else 8
def CliV.nextC (c : CliV) (now : Int) : CliV := match c.nIdx now with
  | some i => match c.seeds[i]? with
    | some s => { c with now := now, seeds := c.seeds.set i (s.start c.nFrm c.nCnt) }
    | none => c
  | none => c
set_option maxRecDepth 100000 in
set_option maxHeartbeats 4000000 in
theorem cnext_no (B SB cap MB : Nat) (ps : List Nat) (c : CliV) (G : List (Value × Value)) (now : Int) (w : World) (h : CliAt w B SB cap MB ps c G) (hno : c.nextE now ≠ 0) :
    Calls Tryz.prog 10 #[.pointer (some ⟨B, 0, none⟩), .int .i64 now] w fun e w' => e = .returned (.tuple #[.int .i64 0, .agg #[.int .i64 0, .int .i64 0], .int .i64 (c.nextE now)]) ∧ New w w' := by
  have HAT := hid (fun W (q : New w W) => cat_any B SB cap MB ps c G now W (h.new q))
  have HLO := hid (fun W (q : New w W) => clongest_any B SB cap MB ps c G W (h.new q))
  have HIX := hid (fun X W (q : New w W) (qx : W.cell? ⟨X, 0, none⟩ = some (.int .i64 now)) => cidxN_any B SB cap MB ps c G X (freeS now) W (h.new q) (fun j p W' hj hp q' => next1_any p X _ now W' (New.blk q' ((h.new q).each j p _ hp (List.getElem?_eq_getElem hj))) (New.cellv q' qx)))
  have hr := h.room; have hB := h.row.lt
  unfold maxLen at hr
  have HC := hid h
  obtain ⟨E, hE⟩ : ∃ E, E = c.nextE now := ⟨_, rfl⟩
  rw [← hE] at hno ⊢
  unfold CliV.nextE at hE
  obtain ⟨A, hA⟩ : ∃ A, A = c.atE now := ⟨_, rfl⟩
  rw [← hA] at hE HAT
  clear h hA
  by_cases hz : A = 0
  · subst hz
    rw [if_neg (by simp)] at hE
    have hE8 : E = 8 ∧ ¬ (c.best.isSome = true ∧ (c.nIdx now).isSome = true) := by
      by_cases q : (c.best.isSome && (c.nIdx now).isSome) = true
      · rw [if_pos q] at hE; exact absurd hE hno
      · rw [if_neg q] at hE; exact ⟨hE, by simpa using q⟩
    obtain ⟨rfl, hns⟩ := hE8
    clear hE hno
    obtain ⟨s, hs⟩ : ∃ s, s = c.best.isSome := ⟨_, rfl⟩
    obtain ⟨k, hk⟩ : ∃ k, k = idxOf (freeS now) c.seeds := ⟨_, rfl⟩
    obtain ⟨a, ha⟩ : ∃ a, a = c.nFrm := ⟨_, rfl⟩
    obtain ⟨b, hb⟩ : ∃ b, b = c.nCnt := ⟨_, rfl⟩
    rw [← hs, ← ha, ← hb] at HLO
    rw [← hk] at HIX
    rw [← hs] at hns
    have hkk : s = true → k < 0 := by
      intro q
      rw [hk]
      unfold idxOf
      cases e : c.seeds.findIdx? (freeS now) with
      | none => simp
      | some j => exact absurd ⟨q, by unfold CliV.nIdx; rw [e]; rfl⟩ hns
    clear hns hs hk ha hb
    go_enter Tryz.func10, Tryz.ntmps10
    go_wp2_with (first | (go_at_call 36; refine (HAT.out _ (((Mod.refl _ _).alloc _).alloc _)).mono ?_; rintro e w1 ⟨rfl, rfl⟩) | fail)
    refine (HLO.out _ (((Mod.refl _ _).alloc _).alloc _)).mono ?_
    rintro e w1 ⟨rfl, n1⟩
    have N1 : Hid (New w w1) := hid ((((Mod.refl _ w).alloc (.cells #[.int .i64 now] 3)).alloc (.cells #[.int .i64 0, .int .i64 0] 34) : New w _).trans n1)
    have X1 : Hid (Blk w1 w.heap.size #[.int .i64 now] 3) := hid (New.blk n1 ((Blk.new _ _ _).alloc _))
    have R1 : Hid (Blk w1 (w.heap.size + 1) #[.int .i64 0, .int .i64 0] 34) := hid (New.blk n1 (Blk.newAt (by simp)))
    have c0 := (HC.out.new N1.out).row.cellv 0 rfl; have cl := (HC.out.new N1.out).row.lt
    clear n1
    go_wp2_with fail
    refine (HIX.out w.heap.size _ (N1.out.alloc _) ((X1.out.alloc _).cellv 0 rfl)).mono ?_
    rintro e w2 ⟨rfl, n2⟩
    have N2 := hid ((N1.out.alloc (.cells #[.int .i64 a, .int .i64 b] 34)).trans n2)
    have R2 := hid (New.blk n2 (R1.out.alloc (.cells #[.int .i64 a, .int .i64 b] 34)))
    have r0 := R2.out.cellv 0 rfl; have r1 := R2.out.cellv 1 rfl; have rl := R2.out.lt; have rf0 := R2.out.frz 0; have rf1 := R2.out.frz 1
    clear n2 c0 cl
    cases s with
    | false =>
      go_wp2
      refine name_worldZ (p := fun W => bodyPost _ _ _ _ _ W) (fun W6 hW6 => ?_)
      have K6 : Blk W6 (w.heap.size + 1) #[.int .i64 0, .int .i64 0] 34 := by
        rw [hW6]
        first | exact ((R2.out.set 0 _).set 1 _).row (by simp) | exact R2.out
      have N6 : New w W6 := by
        rw [hW6]
        first | exact Mod.set (Mod.set N2.out _ _ (.inr (by simp))) _ _ (.inr (by simp)) | exact N2.out
      have q0 := K6.cellv 0 rfl; have q1 := K6.cellv 1 rfl
      clear hW6
      exact bodyPost_ret (v := .tuple #[.int .i64 0, .agg #[.int .i64 0, .int .i64 0], .int .i64 8]) (by simp [results, Tryz.results10, go_sem, q0, q1]) rfl ⟨rfl, N6⟩
    | true =>
      have hk0 : k < 0 := hkk rfl
      go_wp2
      refine name_worldZ (p := fun W => bodyPost _ _ _ _ _ W) (fun W6 hW6 => ?_)
      have K6 : Blk W6 (w.heap.size + 1) #[.int .i64 0, .int .i64 0] 34 := by
        rw [hW6]
        first | exact ((R2.out.set 0 _).set 1 _).row (by simp) | exact R2.out
      have N6 : New w W6 := by
        rw [hW6]
        first | exact Mod.set (Mod.set N2.out _ _ (.inr (by simp))) _ _ (.inr (by simp)) | exact N2.out
      have q0 := K6.cellv 0 rfl; have q1 := K6.cellv 1 rfl
      clear hW6
      exact bodyPost_ret (v := .tuple #[.int .i64 0, .agg #[.int .i64 0, .int .i64 0], .int .i64 8]) (by simp [results, Tryz.results10, go_sem, q0, q1]) rfl ⟨rfl, N6⟩
  · have hzI : (A != 0) = true := by rw [bne_iff_ne]; exact hz
    rw [if_pos hz] at hE
    subst hE
    clear hno
    go_enter Tryz.func10, Tryz.ntmps10
    go_wp2_with (first | (go_at_call 36; refine (HAT.out _ (((Mod.refl _ _).alloc _).alloc _)).mono ?_; rintro e w1 ⟨rfl, rfl⟩) | fail)
    have R2 : Hid (Blk ((w.alloc (.cells #[.int .i64 now] 3)).alloc (.cells #[.int .i64 0, .int .i64 0] 34)) (w.heap.size + 1) #[.int .i64 0, .int .i64 0] 34) := hid (Blk.newAt (by simp))
    have N2 : Hid (New w ((w.alloc (.cells #[.int .i64 now] 3)).alloc (.cells #[.int .i64 0, .int .i64 0] 34))) := hid (((Mod.refl _ _).alloc _).alloc _)
    refine name_worldZ (p := fun W => bodyPost _ _ _ _ _ W) (fun W6 hW6 => ?_)
    have K6 : Blk W6 (w.heap.size + 1) #[.int .i64 0, .int .i64 0] 34 := by
      rw [hW6]
      first | exact ((R2.out.set 0 _).set 1 _).row (by simp) | exact R2.out
    have N6 : New w W6 := by
      rw [hW6]
      first | exact Mod.set (Mod.set N2.out _ _ (.inr (by simp))) _ _ (.inr (by simp)) | exact N2.out
    have q0 := K6.cellv 0 rfl; have q1 := K6.cellv 1 rfl
    clear hW6
    exact bodyPost_ret (v := .tuple #[.int .i64 0, .agg #[.int .i64 0, .int .i64 0], .int .i64 E]) (by simp [results, Tryz.results10, go_sem, q0, q1]) rfl ⟨rfl, N6⟩
end Go.Proofs.YtnhgichiedninaaGreatDoor

namespace Go.Proofs.YtnhgichiedninaaGreatDoor
set_option linter.unusedSimpArgs false
set_option linter.unusedVariables false
open Go.RowKit Go.Shelf

theorem blk_cell {w : World} {b i : Nat} {v : Value} {p : Addr} {u : Value} (hp : p.block ≠ b) (h : w.cell? ⟨b, i, none⟩ = some v) : (w.setCell p u).cell? ⟨b, i, none⟩ = some v := by
  rw [← h]
  exact World.cell?_of_block (Below.heap_setCell w p u b (fun q => hp q.symm))
theorem CliAt.put {w w' : World} {B SB cap MB : Nat} {ps : List Nat} {c : CliV} {G : List (Value × Value)} (h : CliAt w B SB cap MB ps c G) {k p : Nat} {s : SeedV} (hk : ps[k]? = some p) (hp : Blk w' p (seedRow s) 82) (hm : Mod (fun q => q = p) w w') (hs : 0 ≤ s.frm ∧ 0 ≤ s.cnt ∧ s.frm + s.cnt ≤ c.n) :
    CliAt w' B SB cap MB ps { c with seeds := c.seeds.set k s } G := by
  have hmem : p ∈ ps := List.mem_of_getElem? hk
  obtain ⟨b1, b2, b3, b4, b5, b6⟩ := h.bp
  have hkl : k < ps.length := (List.getElem?_eq_some_iff.1 hk).1
  refine ⟨?_, by simpa using h.few, by simpa using h.room, Nat.lt_of_lt_of_le h.slt hm.size, by simpa using h.len, fun i q hq => ?_, fun i q t hq ht => ?_, h.gave.mod hm (fun q => b3 (q ▸ hmem)), h.fld, h.n1, h.nodup, h.bp, fun t ht => ?_, h.nums⟩
  · have := hm.blk h.row (fun q => b1 (q ▸ hmem))
    simpa using this
  · exact hm.cellv (h.ptr i q hq) (fun e => b2 (by have e2 : SB = p := e; rw [e2]; exact hmem))
  · by_cases e : i = k
    · subst e
      rw [hk] at hq
      injection hq with hq
      subst hq
      rw [List.getElem?_set_self (by rw [← h.len]; exact hkl)] at ht
      injection ht with ht
      subst ht
      exact hp
    · rw [List.getElem?_set_ne (fun q => e q.symm)] at ht
      refine hm.blk (h.each i q t hq ht) (fun e2 => e ?_)
      subst e2
      have h1 := (List.getElem?_eq_some_iff.1 hq)
      have h2 := (List.getElem?_eq_some_iff.1 hk)
      exact (List.getElem_inj h.nodup (h₀ := h1.1) (h₁ := h2.1)).1 (by rw [h1.2, h2.2])
  · rcases List.mem_or_eq_of_mem_set ht with q | q
    · exact h.runs t q
    · rw [q]; exact hs
theorem CliAt.time {w : World} {B SB cap MB : Nat} {ps : List Nat} {c : CliV} {G : List (Value × Value)} (h : CliAt w B SB cap MB ps c G) {t : Int} (ht : 0 ≤ t ∧ t ≤ 1000000000) :
    CliAt (w.setCell ⟨B, 4, none⟩ (.int .i64 t)) B SB cap MB ps { c with now := t } G := by
  obtain ⟨b1, b2, b3, b4, b5, b6⟩ := h.bp
  refine ⟨(h.row.set 4 _).row (by simp), h.few, h.room, by simpa using h.slt, h.len, fun i q hq => blk_cell (by simpa using b4) (h.ptr i q hq), fun i q s hq hs => Blk.other (fun e => b1 (by have e2 : q = B := e; rw [← e2]; exact List.mem_of_getElem? hq)) (h.each i q s hq hs), h.gave.of_heap (Below.heap_setCell w _ _ MB (fun e => b5 e.symm)), h.fld, h.n1, h.nodup, h.bp, h.runs, ⟨h.nums.1, h.nums.2.1, ht⟩⟩
theorem CliAt.field {w : World} {B SB cap MB : Nat} {ps : List Nat} {c : CliV} {G : List (Value × Value)} (h : CliAt w B SB cap MB ps c G) {s : List UInt8} (hs : FieldOf c.n s) :
    CliAt (w.setCell ⟨B, 2, none⟩ (.string ⟨s.toArray⟩)) B SB cap MB ps { c with want := s } G := by
  obtain ⟨b1, b2, b3, b4, b5, b6⟩ := h.bp
  exact ⟨(h.row.set 2 _).row (by simp), h.few, h.room, by simpa using h.slt, h.len, fun i q hq => blk_cell (by simpa using b4) (h.ptr i q hq), fun i q s hq hs => Blk.other (fun e => b1 (by have e2 : q = B := e; rw [← e2]; exact List.mem_of_getElem? hq)) (h.each i q s hq hs), h.gave.of_heap (Below.heap_setCell w _ _ MB (fun e => b5 e.symm)), hs, h.n1, h.nodup, h.bp, h.runs, h.nums⟩
theorem CliAt.map {w w' : World} {B SB cap MB : Nat} {ps : List Nat} {c : CliV} {G G' : List (Value × Value)} (h : CliAt w B SB cap MB ps c G) (hg : MapL w' MB (.int .i64) G') (hm : Mod (fun q => q = MB) w w') : CliAt w' B SB cap MB ps c G' := by
  obtain ⟨b1, b2, b3, b4, b5, b6⟩ := h.bp
  exact ⟨hm.blk h.row b5, h.few, h.room, Nat.lt_of_lt_of_le h.slt hm.size, h.len, fun i q hq => hm.cellv (h.ptr i q hq) b6, fun i q s hq hs => hm.blk (h.each i q s hq hs) (fun e => b3 (by rw [← e]; exact List.mem_of_getElem? hq)), hg, h.fld, h.n1, h.nodup, h.bp, h.runs, h.nums⟩
theorem CliAt.other {S : Nat → Prop} {w w' : World} {B SB cap MB : Nat} {ps : List Nat} {c : CliV} {G : List (Value × Value)} (h : CliAt w B SB cap MB ps c G) (hm : Mod S w w') (hS : ∀ k, S k → k ≠ B ∧ k ≠ SB ∧ k ≠ MB ∧ k ∉ ps) : CliAt w' B SB cap MB ps c G :=
  ⟨hm.blk h.row (fun q => (hS _ q).1 rfl), h.few, h.room, Nat.lt_of_lt_of_le h.slt hm.size, h.len, fun i q hq => hm.cellv (h.ptr i q hq) (fun e => (hS _ e).2.1 rfl), fun i q s hq hs => hm.blk (h.each i q s hq hs) (fun e => (hS _ e).2.2.2 (List.mem_of_getElem? hq)), h.gave.mod hm (fun q => (hS _ q).2.2.1 rfl), h.fld, h.n1, h.nodup, h.bp, h.runs, h.nums⟩
theorem CliAt.below {w : World} {B SB cap MB : Nat} {ps : List Nat} {c : CliV} {G : List (Value × Value)} (h : CliAt w B SB cap MB ps c G) : ∀ k, w.heap.size ≤ k → k ≠ B ∧ k ≠ SB ∧ k ≠ MB ∧ k ∉ ps := by
  intro k hk
  refine ⟨fun e => ?_, fun e => ?_, fun e => ?_, fun e => ?_⟩
  · have := h.row.lt; omega
  · have := h.slt; omega
  · have := h.gave.lt; omega
  · obtain ⟨i, hi⟩ := List.getElem?_of_mem e
    have hil := (List.getElem?_eq_some_iff.1 hi).1
    have := (h.each i k _ hi (List.getElem?_eq_getElem (by rw [← h.len]; exact hil))).lt
    omega
/-- What a call on the client may turn. -/
def CliT (B MB : Nat) (ps : List Nat) (k : Nat) : Prop := k = B ∨ k = MB ∨ k ∈ ps
end Go.Proofs.YtnhgichiedninaaGreatDoor
