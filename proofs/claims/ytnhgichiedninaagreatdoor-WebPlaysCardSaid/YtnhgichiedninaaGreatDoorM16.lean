/-
  Several texts in one, in their build order. A list of booleans, and the law's own field of bits (coveylaw30.field). Conditions: the list lies as told, and is short.
-/
import Derived.Test.YtnhgichiedninaaGreatDoorM4
import Derived.Test.YtnhgichiedninaaGreatDoorM7
import Derived.Deep.RegionHeld3
namespace Go.Proofs.YtnhgichiedninaaGreatDoor
set_option linter.unusedSimpArgs false
set_option linter.unusedVariables false
open Go.RowKit

structure BoolsAt (w : World) (a : Option Addr) (c : Nat) (xs : List Bool) : Prop where
  room : xs.length ≤ c
  cap : c ≤ maxLen
  at' : xs = [] ∨ ∃ b o, a = some ⟨b, o, none⟩ ∧ b < w.heap.size ∧ ∀ (i : Nat) x, xs[i]? = some x → w.cell? ⟨b, o + i, none⟩ = some (.bool x)
theorem BoolsAt.new {w w' : World} {a : Option Addr} {c : Nat} {xs : List Bool} (h : BoolsAt w a c xs) (hn : New w w') : BoolsAt w' a c xs := by
  refine ⟨h.room, h.cap, ?_⟩
  rcases h.at' with h | ⟨b, o, e, hb, hc⟩
  · exact .inl h
  · exact .inr ⟨b, o, e, Nat.lt_of_lt_of_le hb hn.size, fun i s hs => hn.cellv (hc i s hs)⟩
theorem BoolsAt.get {w : World} {a : Option Addr} {c : Nat} {xs : List Bool} (h : BoolsAt w a c xs) (hz : 0 < xs.length) : ∃ b o, a = some ⟨b, o, none⟩ ∧ b < w.heap.size ∧ ∀ (i : Nat) (hi : i < xs.length), w.cell? ⟨b, o + i, none⟩ = some (.bool xs[i]) := by
  rcases h.at' with h | ⟨b, o, e, hb, hc⟩
  · subst h; simp at hz
  · exact ⟨b, o, e, hb, fun i hi => hc i _ (List.getElem?_eq_getElem hi)⟩
theorem i_byteF : (Tryz.prog.info? 5).map (fun i => (i.zero, i.size, i.bytes)) = some (some (.int .u8 0), 1, 1) := by kernel_rfl
theorem made_oneF (v : Value) (n : Nat) (hv : v.cells = #[v]) : madeCells v.cells n = Array.replicate n v := by
  apply Array.ext
  · simp [madeCells]
  · intro i h1 h2
    simp [madeCells, hv, Nat.mod_one]
theorem make_bytesF (n : Nat) (h : n ≤ 65536) (w : World) : (Instr.makeSlice 83 (.int .i64 n) (.int .i64 n)).run Tryz.prog w = .ok (.slice (some ⟨w.heap.size, 0, none⟩) n n) (w.alloc (.cells (Array.replicate n (.int .u8 0)) 5)) := by
  obtain ⟨i0, hi, hz0, hz1, hz2⟩ := info_parts i_byteF
  have hr := run_makeSlice (P := Tryz.prog) w 83 5 i0 _ Tryz.underlying83 hi hz0 .i64 .i64 n n (by omega) (by omega) (by rw [hz1]; omega) (by rw [hz2]; omega) (by omega)
  rw [hr, hz1, Nat.mul_one, made_oneF _ _ rfl]
  simp
/-- The field of bits of the first j booleans. -/
def fieldUpto (xs : List Bool) : Nat → List UInt8
  | 0 => List.replicate ((xs.length + 7) / 8) 0
  | j + 1 => if xs.getD j false then setL (fieldUpto xs j) j true else fieldUpto xs j
theorem fieldUpto_ok (xs : List Bool) : ∀ (j : Nat), j ≤ xs.length → FieldOf xs.length (fieldUpto xs j) ∧ ∀ i, bitL (fieldUpto xs j) i = (decide (i < j) && xs.getD i false)
  | 0, _ => ⟨FieldOf.zero _, fun i => by rw [fieldUpto, bitL_zero]; simp⟩
  | j + 1, hj => by
    obtain ⟨h1, h2⟩ := fieldUpto_ok xs j (by omega)
    rw [fieldUpto]
    cases hx : xs.getD j false with
    | true =>
      rw [if_pos rfl]
      refine ⟨h1.set (by omega) true, fun i => ?_⟩
      rw [h1.bit_set (by omega), h2 i]
      by_cases e : i = j
      · subst e; rw [if_pos rfl, hx]; simp
      · rw [if_neg e]
        congr 1
        by_cases q : i < j
        · rw [decide_eq_true q, decide_eq_true (by omega)]
        · rw [decide_eq_false q, decide_eq_false (by omega)]
    | false =>
      rw [if_neg (by simp)]
      refine ⟨h1, fun i => ?_⟩
      rw [h2 i]
      by_cases e : i = j
      · subst e; rw [hx]; simp
      · congr 1
        by_cases q : i < j
        · rw [decide_eq_true q, decide_eq_true (by omega)]
        · rw [decide_eq_false q, decide_eq_false (by omega)]
theorem name_worldF {p : World → Prop} {w : World} (h : ∀ W, W = w → p W) : p w := h w rfl
def fieldB (xs : List Bool) : List UInt8 := fieldUpto xs xs.length
theorem fieldB_ok (xs : List Bool) : FieldOf xs.length (fieldB xs) ∧ ∀ i, bitL (fieldB xs) i = xs.getD i false := by
  obtain ⟨h1, h2⟩ := fieldUpto_ok xs xs.length (Nat.le_refl _)
  refine ⟨h1, fun i => ?_⟩
  rw [fieldB, h2 i]
  by_cases q : i < xs.length
  · simp [q]
  · rw [List.getD_eq_getElem?_getD, List.getElem?_eq_none (by omega)]; simp
set_option maxRecDepth 100000 in
set_option maxHeartbeats 4000000 in
theorem field_any (a : Option Addr) (c : Nat) (xs : List Bool) (w : World) (h : BoolsAt w a c xs) (hl : 0 < xs.length ∧ xs.length ≤ 4096) :
    Calls Tryz.prog 9 #[.slice a xs.length c] w fun e w' => e = .returned (.string ⟨(fieldB xs).toArray⟩) ∧ New w w' := by
  obtain ⟨b1, o1, rfl, hb1, hc1⟩ := h.get hl.1
  have hr := h.room; have hc := h.cap
  unfold maxLen at hc
  have HC1 := hid hc1
  obtain ⟨L, hL⟩ : ∃ L, L = (xs.length + 7) / 8 := ⟨_, rfl⟩
  have hq : ((xs.length : Int) + 7).tdiv 8 = (L : Int) := by rw [Int.tdiv_eq_ediv_of_nonneg (by omega)]; omega
  have hq2 : ((xs.length : Int) + 7) / 8 = (L : Int) := by omega
  have hmb := make_bytesF L (by omega)
  have hL0 : 0 < L := by omega
  have hL6 : L ≤ 600 := by omega
  have HL := hid hL
  have hl1 := hl.1; have hl2 := hl.2
  clear h hc1 hL hl
  go_enter Tryz.func9, Tryz.ntmps9
  go_wp2_with fail
  have HB0 : Hid (ByAt (w.alloc (.cells (Array.replicate L (.int .u8 0)) 5)) w.heap.size (fieldUpto xs 0)) := hid (by
    rw [fieldUpto, ← HL.out]
    exact ByAt.of_blk (Blk.new _ _ _) (by simp) (fun i hi => by simp at hi ⊢; simp [hi]))
  clear hmb hq hq2
  go_loopw [13] (fun x wr => ∃ j : Nat, x = .int .i64 j ∧ j ≤ xs.length ∧ ByAt wr w.heap.size (fieldUpto xs j) ∧ New w wr) (fun x _ => xs.length - (intOf x).toNat)
  case atStart => exact ⟨0, rfl, by omega, HB0.out, (Mod.refl _ _).alloc _⟩
  case round =>
    obtain ⟨j, rfl, hj, hb, hn⟩ := hrel
    have HB := hid hb; have HN := hid hn
    obtain ⟨F, hF⟩ : ∃ F, F = fieldUpto xs j := ⟨_, rfl⟩
    have hfl : F.length = L := by rw [hF, (fieldUpto_ok xs j hj).1.len, ← HL.out]
    rw [← hF] at HB hb
    have HF := hid hF
    by_cases hlt : j < xs.length
    · have g1 := hn.cellv (HC1.out j hlt)
      have gl : b1 < wr.heap.size := World.block_lt_of_cell? _ _ g1
      have hxj : xs.getD j false = xs[j] := by rw [List.getD_eq_getElem?_getD, List.getElem?_eq_getElem hlt]; rfl
      have hnx : fieldUpto xs (j + 1) = if xs[j] then setL F j true else F := by rw [fieldUpto, hxj, ← HF.out]
      have HNX := hid hnx
      have hi : j / 8 < F.length := by rw [hfl, HL.out]; omega
      have hcb := hb.cell hi
      have hltb := hb.lt
      have hfz := hb.frz hi
      clear hn hb hF hxj hnx
      cases hx : xs[j] with
      | false =>
        rw [hx] at g1 HNX
        clear hx hcb hfz
        go_wp2
        refine ⟨⟨j + 1, by simp, by omega, by rw [HNX.out]; simpa using HB.out, HN.out⟩, by simp [intOf]; omega⟩
      | true =>
        rw [hx] at g1 HNX
        obtain ⟨B, hB⟩ : ∃ B, B = F[j / 8] := ⟨_, rfl⟩
        have HS := hid (show F.set (j / 8) (setB B (j % 8) true) = setL F j true by unfold setL; rw [hB, List.getD_eq_getElem?_getD, List.getElem?_eq_getElem hi]; rfl)
        rw [← hB] at hcb
        have hq : ((j : Int)).tdiv 8 = ((j / 8 : Nat) : Int) := by rw [Int.tdiv_eq_ediv_of_nonneg (by omega)]; omega
        have hq2 : (j : Int) / 8 = ((j / 8 : Nat) : Int) := by omega
        have hrr : ((j : Int)).tmod 8 = ((j % 8 : Nat) : Int) := by rw [Int.tmod_eq_emod_of_nonneg (by omega)]; omega
        have hrr2 : (j : Int) % 8 = ((j % 8 : Nat) : Int) := by omega
        have ho := or_mask B (j := j % 8) (by omega)
        have HI := hid hi
        obtain ⟨K, hK⟩ : ∃ K, K = j / 8 := ⟨_, rfl⟩
        obtain ⟨J, hJ⟩ : ∃ J, J = j % 8 := ⟨_, rfl⟩
        rw [← hK] at hcb hq hq2 hfz HS hi HI
        rw [← hJ] at hrr hrr2 ho HS
        have hJ8 : J < 8 := by omega
        have hKL : K < L := by omega
        have hK6 : K ≤ 600 := by omega
        have hwK : IntKind.i64.wrap (K : Int) = K := by rw [IntKind.wrap_i64]; omega
        have hwJ : IntKind.i64.wrap (J : Int) = J := by rw [IntKind.wrap_i64]; omega
        clear hB hK hJ hx hi
        go_wp2_with fail
        refine wp_region_held_drew (S := (fun w' => True)) (by kernel_rfl) trivial (fun hHeld => ?_)
        refine wpAnyH_take (i := 0) (v := ?_) (by simp only [List.getElem?_toArray, List.getElem?_cons_succ, List.getElem?_cons_zero]; rfl) (by kernel_rfl) (by kernel_rfl) (by kernel_rfl) (by intro _ _ _ h; exact h) (Or.inl ⟨by rfl, ?_⟩) (by assumption) ?_
        rotate_left
        · intro w hSw
          (try dsimp only at hSw)
          first | (go_simp; done) | (go_simp; with_reducible rfl) | with_reducible rfl
        simp only [Act.put, List.setIfInBounds_toArray, List.set_cons_zero, List.set_cons_succ]
        refine wpAnyH_take (i := 1) (v := ?_) (by simp only [List.getElem?_toArray, List.getElem?_cons_succ, List.getElem?_cons_zero]; rfl) (by kernel_rfl) (by kernel_rfl) (by kernel_rfl) (by intro _ _ _ h; exact h) (Or.inl ⟨by rfl, ?_⟩) (by assumption) ?_
        rotate_left
        · intro w hSw
          (try dsimp only at hSw)
          first | (go_simp; done) | (go_simp; with_reducible rfl) | with_reducible rfl
        simp only [Act.put, List.setIfInBounds_toArray, List.set_cons_zero, List.set_cons_succ]
        refine wpAnyH_take (i := 2) (v := ?_) (by simp only [List.getElem?_toArray, List.getElem?_cons_succ, List.getElem?_cons_zero]; rfl) (by kernel_rfl) (by kernel_rfl) (by kernel_rfl) (by intro _ _ _ h; exact h) (Or.inl ⟨by rfl, ?_⟩) (by assumption) ?_
        rotate_left
        · intro w hSw
          (try dsimp only at hSw)
          first | (go_simp; done) | (go_simp; with_reducible rfl) | with_reducible rfl
        simp only [Act.put, List.setIfInBounds_toArray, List.set_cons_zero, List.set_cons_succ]
        refine wpAnyH_take (i := 3) (v := ?_) (by simp only [List.getElem?_toArray, List.getElem?_cons_succ, List.getElem?_cons_zero]; rfl) (by kernel_rfl) (by kernel_rfl) (by kernel_rfl) (by intro _ _ _ h; exact h) (Or.inl ⟨by rfl, ?_⟩) (by assumption) ?_
        rotate_left
        · intro w hSw
          (try dsimp only at hSw)
          first | (go_simp; done) | (go_simp; with_reducible rfl) | with_reducible rfl
        simp only [Act.put, List.setIfInBounds_toArray, List.set_cons_zero, List.set_cons_succ]
        refine wpAnyH_take (i := 5) (v := ?_) (by simp only [List.getElem?_toArray, List.getElem?_cons_succ, List.getElem?_cons_zero]; rfl) (by kernel_rfl) (by kernel_rfl) (by kernel_rfl) (by intro _ _ _ h; exact h) (Or.inl ⟨by rfl, ?_⟩) (by assumption) ?_
        rotate_left
        · intro w hSw
          (try dsimp only at hSw)
          first | (go_simp; done) | (go_simp; with_reducible rfl) | with_reducible rfl
        simp only [Act.put, List.setIfInBounds_toArray, List.set_cons_zero, List.set_cons_succ]
        refine wpAnyH_take (i := 6) (v := ?_) (by simp only [List.getElem?_toArray, List.getElem?_cons_succ, List.getElem?_cons_zero]; rfl) (by kernel_rfl) (by kernel_rfl) (by kernel_rfl) (by intro _ _ _ h; exact h) (Or.inl ⟨by rfl, ?_⟩) (by assumption) ?_
        rotate_left
        · intro w hSw
          (try dsimp only at hSw)
          first | (go_simp; done) | (go_simp; with_reducible rfl) | with_reducible rfl
        simp only [Act.put, List.setIfInBounds_toArray, List.set_cons_zero, List.set_cons_succ]
        refine wpAnyH_take (i := 7) (v := ?_) (by simp only [List.getElem?_toArray, List.getElem?_cons_succ, List.getElem?_cons_zero]; rfl) (by kernel_rfl) (by kernel_rfl) (by kernel_rfl) (by intro _ _ _ h; exact h) (Or.inl ⟨by rfl, ?_⟩) (by assumption) ?_
        rotate_left
        · intro w hSw
          (try dsimp only at hSw)
          first | (go_simp; done) | (go_simp; with_reducible rfl) | with_reducible rfl
        simp only [Act.put, List.setIfInBounds_toArray, List.set_cons_zero, List.set_cons_succ]
        refine wpAnyH_ready (rs := [4]) (by kernel_rfl) (by simp) ?_
        refine AllReadyH.cons (by simp only [List.getElem?_toArray, List.getElem?_cons_succ, List.getElem?_cons_zero]; rfl) (fun K hK => ?_) AllReadyH.nil
        go_simp
        refine hK.out _ _ trivial (fun hHeld4 => ?_)
        clear hK K hHeld4
        try simp only [Act.put, List.setIfInBounds_toArray, List.set_cons_zero, List.set_cons_succ]
        refine wpAnyH_take (i := 8) (v := ?_) (by simp only [List.getElem?_toArray, List.getElem?_cons_succ, List.getElem?_cons_zero]; rfl) (by kernel_rfl) (by kernel_rfl) (by kernel_rfl) (by intro _ _ _ h; exact h) (Or.inl ⟨by rfl, ?_⟩) (by assumption) ?_
        rotate_left
        · intro w hSw
          (try dsimp only at hSw)
          first | (go_simp; done) | (go_simp; with_reducible rfl) | with_reducible rfl
        simp only [Act.put, List.setIfInBounds_toArray, List.set_cons_zero, List.set_cons_succ]
        refine wpAnyH_take (i := 9) (v := ?_) (by simp only [List.getElem?_toArray, List.getElem?_cons_succ, List.getElem?_cons_zero]; rfl) (by kernel_rfl) (by kernel_rfl) (by kernel_rfl) (by intro _ _ _ h; exact h) (Or.inl ⟨by rfl, ?_⟩) (by assumption) ?_
        rotate_left
        · intro w hSw
          (try dsimp only at hSw)
          first | (go_simp; done) | (go_simp; with_reducible rfl) | with_reducible rfl
        simp only [Act.put, List.setIfInBounds_toArray, List.set_cons_zero, List.set_cons_succ]
        refine wpAnyH_ready (rs := [10]) (by kernel_rfl) (by simp) ?_
        refine AllReadyH.cons (by simp only [List.getElem?_toArray, List.getElem?_cons_succ, List.getElem?_cons_zero]; rfl) (fun K hK => ?_) AllReadyH.nil
        go_simp
        refine hK.out _ _ trivial (fun hHeld10 => ?_)
        clear hK K hHeld10
        try simp only [Act.put, List.setIfInBounds_toArray, List.set_cons_zero, List.set_cons_succ]
        refine wpAnyH_done (by kernel_rfl) ?_ _
        refine name_worldF (p := fun W => Exit.inBlock _ _ _ _ W) (fun W4 hW4 => ?_)
        have B4 := hid (show ByAt W4 w.heap.size (setL F j true) by rw [hW4, ← HS.out]; exact (HB.out.new (Mod.refl (fun _ => False) wr).drew).set HI.out _)
        have N4 := hid (show New w W4 by rw [hW4]; exact Mod.set HN.out.drew _ _ (.inr (Nat.le_refl _)))
        clear hW4
        go_wp2
        refine ⟨⟨j + 1, by simp, by omega, by rw [HNX.out]; simpa using B4.out, N4.out⟩, by simp [intOf]; omega⟩
    · obtain rfl : j = xs.length := by omega
      have ht := hb.text L L hfl.symm
      have HFB := hid (show F = fieldB xs from hF)
      clear hn hb hF
      go_wp2
      go_ret
      exact ⟨by rw [HFB.out]; rfl, HN.out⟩
end Go.Proofs.YtnhgichiedninaaGreatDoor
