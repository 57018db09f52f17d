/-
  Several texts in one, in their build order. The walks of want and came (package web): a piece put in or taken out; a run that came. Conditions: the client lies as told.
-/
import Derived.Test.YtnhgichiedninaaGreatDoorM11
namespace Go.Proofs.YtnhgichiedninaaGreatDoor
set_option linter.unusedSimpArgs false
set_option linter.unusedVariables false
open Go.RowKit Go.Shelf

set_option maxRecDepth 100000 in
set_option maxHeartbeats 2000000 in
theorem cwant_any (B SB cap MB : Nat) (ps : List Nat) (c : CliV) (G : List (Value × Value)) (i : Nat) (v : Bool) (w : World) (h : CliAt w B SB cap MB ps c G) (hi : i < c.n) :
    Calls Tryz.prog 45 #[.pointer (some ⟨B, 0, none⟩), .int .i64 i, .bool v] w fun e w' => e = .returned (.tuple #[]) ∧ CliAt w' B SB cap MB ps { c with want := setL c.want i v } G ∧ Mod (fun q => q = B) w w' := by
  have c1 := h.row.cellv 1 rfl; have c2 := h.row.cellv 2 rfl; have cl := h.row.lt
  have HB := hid (fun W => bSet_any c.n i ⟨c.want.toArray⟩ v W (by simpa using h.fld) h.n1 hi)
  have HF := hid (h.fld.set hi v)
  have HC := hid h
  obtain ⟨N, hN⟩ : ∃ N, N = c.n := ⟨_, rfl⟩
  obtain ⟨S, hS⟩ : ∃ S : ByteArray, S = ⟨c.want.toArray⟩ := ⟨_, rfl⟩
  obtain ⟨T, hT⟩ : ∃ T : ByteArray, T = ⟨(setL c.want i v).toArray⟩ := ⟨_, rfl⟩
  have hST : (⟨(setL S.data.toList i v).toArray⟩ : ByteArray) = T := by rw [hT, hS]
  rw [← hN] at c1 HB
  rw [← hS] at c2 HB
  rw [hST] at HB
  have HT := hid hT; have HN := hid hN
  clear h hN hS hST hT hi
  go_enter Tryz.func45, Tryz.ntmps45
  go_wp2_with fail
  refine wp_region_held_drew (S := (fun w' => w'.cell? ⟨B, 1, none⟩ = some (.int .i64 N))) (by kernel_rfl) c1 (fun hHeld => ?_)
  refine wpAnyH_take (i := 0) (v := ?_) (by simp only [List.getElem?_toArray, List.getElem?_cons_succ, List.getElem?_cons_zero]; rfl) (by kernel_rfl) (by kernel_rfl) (by kernel_rfl) (by intro _ _ _ h; exact h) (Or.inl ⟨by rfl, ?_⟩) (by assumption) ?_
  rotate_left
  · intro w hSw
    (try dsimp only at hSw)
    first | (go_simp; done) | (go_simp; with_reducible rfl) | with_reducible rfl
  simp only [Act.put, List.setIfInBounds_toArray, List.set_cons_zero, List.set_cons_succ]
  refine wpAnyH_take (i := 1) (v := ?_) (by simp only [List.getElem?_toArray, List.getElem?_cons_succ, List.getElem?_cons_zero]; rfl) (by kernel_rfl) (by kernel_rfl) (by kernel_rfl) (by intro _ _ _ h; exact h) (Or.inl ⟨by rfl, ?_⟩) (by assumption) ?_
  rotate_left
  · intro w hSw
    (try dsimp only at hSw)
    first | (go_simp; done) | (go_simp; with_reducible rfl) | with_reducible rfl
  simp only [Act.put, List.setIfInBounds_toArray, List.set_cons_zero, List.set_cons_succ]
  refine wpAnyH_take (i := 2) (v := ?_) (by simp only [List.getElem?_toArray, List.getElem?_cons_succ, List.getElem?_cons_zero]; rfl) (by kernel_rfl) (by kernel_rfl) (by kernel_rfl) (by intro _ _ _ h; exact h) (Or.inl ⟨by rfl, ?_⟩) (by assumption) ?_
  rotate_left
  · intro w hSw
    (try dsimp only at hSw)
    first | (go_simp; done) | (go_simp; with_reducible rfl) | with_reducible rfl
  simp only [Act.put, List.setIfInBounds_toArray, List.set_cons_zero, List.set_cons_succ]
  refine wpAnyH_take (i := 3) (v := ?_) (by simp only [List.getElem?_toArray, List.getElem?_cons_succ, List.getElem?_cons_zero]; rfl) (by kernel_rfl) (by kernel_rfl) (by kernel_rfl) (by intro _ _ _ h; exact h) (Or.inl ⟨by rfl, ?_⟩) (by assumption) ?_
  rotate_left
  · intro w hSw
    (try dsimp only at hSw)
    first | (go_simp; done) | (go_simp; with_reducible rfl) | with_reducible rfl
  simp only [Act.put, List.setIfInBounds_toArray, List.set_cons_zero, List.set_cons_succ]
  refine wpAnyH_take (i := 4) (v := ?_) (by simp only [List.getElem?_toArray, List.getElem?_cons_succ, List.getElem?_cons_zero]; rfl) (by kernel_rfl) (by kernel_rfl) (by kernel_rfl) (by intro _ _ _ h; exact h) (Or.inl ⟨by rfl, ?_⟩) (by assumption) ?_
  rotate_left
  · intro w hSw
    (try dsimp only at hSw)
    first | (go_simp; done) | (go_simp; with_reducible rfl) | with_reducible rfl
  simp only [Act.put, List.setIfInBounds_toArray, List.set_cons_zero, List.set_cons_succ]
  refine wpAnyH_take (i := 5) (v := ?_) (by simp only [List.getElem?_toArray, List.getElem?_cons_succ, List.getElem?_cons_zero]; rfl) (by kernel_rfl) (by kernel_rfl) (by kernel_rfl) (by intro _ _ _ h; exact h) (Or.inl ⟨by rfl, ?_⟩) (by assumption) ?_
  rotate_left
  · intro w hSw
    (try dsimp only at hSw)
    first | (go_simp; done) | (go_simp; with_reducible rfl) | with_reducible rfl
  simp only [Act.put, List.setIfInBounds_toArray, List.set_cons_zero, List.set_cons_succ]
  refine wpAnyH_take (i := 6) (v := ?_) (by simp only [List.getElem?_toArray, List.getElem?_cons_succ, List.getElem?_cons_zero]; rfl) (by kernel_rfl) (by kernel_rfl) (by kernel_rfl) (by intro _ _ _ h; exact h) (Or.inl ⟨by rfl, ?_⟩) (by assumption) ?_
  rotate_left
  · intro w hSw
    (try dsimp only at hSw)
    first | (go_simp; done) | (go_simp; with_reducible rfl) | with_reducible rfl
  simp only [Act.put, List.setIfInBounds_toArray, List.set_cons_zero, List.set_cons_succ]
  refine wpAnyH_take (i := 7) (v := ?_) (by simp only [List.getElem?_toArray, List.getElem?_cons_succ, List.getElem?_cons_zero]; rfl) (by kernel_rfl) (by kernel_rfl) (by kernel_rfl) (by intro _ _ _ h; exact h) (Or.inl ⟨by rfl, ?_⟩) (by assumption) ?_
  rotate_left
  · intro w hSw
    (try dsimp only at hSw)
    first | (go_simp; done) | (go_simp; with_reducible rfl) | with_reducible rfl
  simp only [Act.put, List.setIfInBounds_toArray, List.set_cons_zero, List.set_cons_succ]
  refine wpAnyH_take (i := 9) (v := ?_) (by simp only [List.getElem?_toArray, List.getElem?_cons_succ, List.getElem?_cons_zero]; rfl) (by kernel_rfl) (by kernel_rfl) (by kernel_rfl) (by intro _ _ _ h; exact h) (Or.inl ⟨by rfl, ?_⟩) (by assumption) ?_
  rotate_left
  · intro w hSw
    (try dsimp only at hSw)
    first | (go_simp; done) | (go_simp; with_reducible rfl) | with_reducible rfl
  simp only [Act.put, List.setIfInBounds_toArray, List.set_cons_zero, List.set_cons_succ]
  refine wpAnyH_take (i := 10) (v := ?_) (by simp only [List.getElem?_toArray, List.getElem?_cons_succ, List.getElem?_cons_zero]; rfl) (by kernel_rfl) (by kernel_rfl) (by kernel_rfl) (by intro _ _ _ h; exact h) (Or.inl ⟨by rfl, ?_⟩) (by assumption) ?_
  rotate_left
  · intro w hSw
    (try dsimp only at hSw)
    first | (go_simp; done) | (go_simp; with_reducible rfl) | with_reducible rfl
  simp only [Act.put, List.setIfInBounds_toArray, List.set_cons_zero, List.set_cons_succ]
  refine wpAnyH_ready (rs := [8]) (by kernel_rfl) (by simp) ?_
  refine AllReadyH.cons (by simp only [List.getElem?_toArray, List.getElem?_cons_succ, List.getElem?_cons_zero]; rfl) (fun K hK => ?_) AllReadyH.nil
  go_simp
  refine hK.out _ _ c1 (fun hHeld8 => ?_)
  clear hK K
  try simp only [Act.put, List.setIfInBounds_toArray, List.set_cons_zero, List.set_cons_succ]
  refine wpAnyH_ready (rs := [11]) (by kernel_rfl) (by simp) ?_
  refine AllReadyH.cons rfl (fun K hK => ?_) AllReadyH.nil
  go_simp
  (go_at_call 82; refine (HB.out _).mono ?_; rintro e w1 ⟨rfl, n1⟩; have N1 : Hid (New w w1) := hid (((Mod.refl _ w).drew : New w _).trans n1); clear n1)
  try dsimp only
  refine hK.out _ _ (New.cellv N1.out c1) (fun hHeld11 => ?_)
  clear hK K
  try simp only [Act.put, List.setIfInBounds_toArray, List.set_cons_zero, List.set_cons_succ]
  refine wpAnyH_take (i := 12) (v := ?_) (by simp only [List.getElem?_toArray, List.getElem?_cons_succ, List.getElem?_cons_zero]; rfl) (by kernel_rfl) (by kernel_rfl) (by kernel_rfl) (by intro _ _ _ h; exact h) (Or.inl ⟨by rfl, ?_⟩) (by assumption) ?_
  rotate_left
  · intro w hSw
    (try dsimp only at hSw)
    first | (go_simp; done) | (go_simp; with_reducible rfl) | with_reducible rfl
  simp only [Act.put, List.setIfInBounds_toArray, List.set_cons_zero, List.set_cons_succ]
  refine wpAnyH_take (i := 13) (v := ?_) (by simp only [List.getElem?_toArray, List.getElem?_cons_succ, List.getElem?_cons_zero]; rfl) (by kernel_rfl) (by kernel_rfl) (by kernel_rfl) (by intro _ _ _ h; exact h) (Or.inl ⟨by rfl, ?_⟩) (by assumption) ?_
  rotate_left
  · intro w hSw
    (try dsimp only at hSw)
    first | (go_simp; done) | (go_simp; with_reducible rfl) | with_reducible rfl
  simp only [Act.put, List.setIfInBounds_toArray, List.set_cons_zero, List.set_cons_succ]
  refine wpAnyH_take (i := 14) (v := ?_) (by simp only [List.getElem?_toArray, List.getElem?_cons_succ, List.getElem?_cons_zero]; rfl) (by kernel_rfl) (by kernel_rfl) (by kernel_rfl) (by intro _ _ _ h; exact h) (Or.inl ⟨by rfl, ?_⟩) (by assumption) ?_
  rotate_left
  · intro w hSw
    (try dsimp only at hSw)
    first | (go_simp; done) | (go_simp; with_reducible rfl) | with_reducible rfl
  simp only [Act.put, List.setIfInBounds_toArray, List.set_cons_zero, List.set_cons_succ]
  refine wpAnyH_take (i := 15) (v := ?_) (by simp only [List.getElem?_toArray, List.getElem?_cons_succ, List.getElem?_cons_zero]; rfl) (by kernel_rfl) (by kernel_rfl) (by kernel_rfl) (by intro _ _ _ h; exact h) (Or.inl ⟨by rfl, ?_⟩) (by assumption) ?_
  rotate_left
  · intro w hSw
    (try dsimp only at hSw)
    first | (go_simp; done) | (go_simp; with_reducible rfl) | with_reducible rfl
  simp only [Act.put, List.setIfInBounds_toArray, List.set_cons_zero, List.set_cons_succ]
  refine wpAnyH_take (i := 16) (v := ?_) (by simp only [List.getElem?_toArray, List.getElem?_cons_succ, List.getElem?_cons_zero]; rfl) (by kernel_rfl) (by kernel_rfl) (by kernel_rfl) (by intro _ _ _ h; exact h) (Or.inl ⟨by rfl, ?_⟩) (by assumption) ?_
  rotate_left
  · intro w hSw
    (try dsimp only at hSw)
    first | (go_simp; done) | (go_simp; with_reducible rfl) | with_reducible rfl
  simp only [Act.put, List.setIfInBounds_toArray, List.set_cons_zero, List.set_cons_succ]
  have C1 := HC.out.new N1.out
  have d2 := New.cellv N1.out c2; have dl := C1.row.lt; have df := C1.row.frz 2
  have d1 : (w1.setCell ⟨B, 2, none⟩ (.string T)).cell? ⟨B, 1, none⟩ = some (.int .i64 N) := by rw [HN.out]; exact (C1.row.set 2 _).cellv 1 rfl
  refine wpAnyH_ready (rs := [17]) (by kernel_rfl) (by simp) ?_
  refine AllReadyH.cons (by simp only [List.getElem?_toArray, List.getElem?_cons_succ, List.getElem?_cons_zero]; rfl) (fun K hK => ?_) AllReadyH.nil
  go_simp
  refine hK.out _ _ d1 (fun hHeld17 => ?_)
  clear hK K
  try simp only [Act.put, List.setIfInBounds_toArray, List.set_cons_zero, List.set_cons_succ]
  refine wpAnyH_done (by kernel_rfl) ?_ _
  have F1 := C1.field HF.out
  rw [← HT.out] at F1
  have HF1 := hid F1
  clear F1 C1 d1 d2 dl df
  go_end0
  exact ⟨rfl, HF1.out, Mod.set (New.mod N1.out) _ _ (.inl rfl)⟩
/-- The map tells, of each piece, who gave it last. -/
def GvAt (G : List (Value × Value)) (f : Nat → Option Nat) : Prop :=
  (∀ x ∈ G, ∃ i v : Nat, x = (.int .i64 i, .int .i64 v) ∧ f i = some v) ∧ ∀ i v : Nat, f i = some v → (Value.int .i64 i, Value.int .i64 v) ∈ G
theorem int_inj {a b : Nat} (h : (Value.int .i64 (a : Int)) = .int .i64 (b : Int)) : a = b := by
  injection h with _ h
  omega
theorem GvAt.put_no {G : List (Value × Value)} {f : Nat → Option Nat} (h : GvAt G f) {i : Nat} (hn : ∀ x ∈ G, x.1 ≠ .int .i64 i) (v : Nat) : GvAt (G ++ [(.int .i64 i, .int .i64 v)]) (fun j => if j = i then some v else f j) := by
  refine ⟨fun x hx => ?_, fun j u hj => ?_⟩
  · rcases List.mem_append.1 hx with q | q
    · obtain ⟨j, u, rfl, hf⟩ := h.1 x q
      refine ⟨j, u, rfl, ?_⟩
      show (if j = i then some v else f j) = some u
      rw [if_neg (fun e => hn _ q (by rw [e]))]
      exact hf
    · rw [List.mem_singleton] at q
      exact ⟨i, v, q, if_pos rfl⟩
  · have hj : (if j = i then some v else f j) = some u := hj
    by_cases e : j = i
    · subst e
      rw [if_pos rfl] at hj
      cases hj
      simp
    · rw [if_neg e] at hj
      exact List.mem_append.2 (.inl (h.2 j u hj))
theorem GvAt.put_at {G : List (Value × Value)} {f : Nat → Option Nat} (h : GvAt G f) (hd : (G.map (·.1)).Nodup) {i k : Nat} {u : Value} (hk : G[k]? = some (.int .i64 i, u)) (v : Nat) : GvAt (G.set k (.int .i64 i, .int .i64 v)) (fun j => if j = i then some v else f j) := by
  have hkl := (List.getElem?_eq_some_iff.1 hk).1
  have huniq : ∀ (j : Nat) (y : Value × Value), G[j]? = some y → y.1 = .int .i64 i → j = k := by
    intro j y hj hy
    have h1 : (G.map (·.1))[j]? = some (.int .i64 i) := by rw [List.getElem?_map, hj, Option.map_some, hy]
    have h2 : (G.map (·.1))[k]? = some (.int .i64 i) := by rw [List.getElem?_map, hk]; rfl
    have e1 := List.getElem?_eq_some_iff.1 h1
    have e2 := List.getElem?_eq_some_iff.1 h2
    exact (List.getElem_inj hd (h₀ := e1.1) (h₁ := e2.1)).1 (by rw [e1.2, e2.2])
  refine ⟨fun x hx => ?_, fun j t hj => ?_⟩
  · obtain ⟨m, hm⟩ := List.getElem?_of_mem hx
    rw [List.getElem?_set] at hm
    by_cases e : k = m
    · rw [if_pos e, if_pos hkl] at hm
      cases hm
      exact ⟨i, v, rfl, if_pos rfl⟩
    · rw [if_neg e] at hm
      obtain ⟨j, t, rfl, hf⟩ := h.1 x (List.mem_of_getElem? hm)
      refine ⟨j, t, rfl, ?_⟩
      show (if j = i then some v else f j) = some t
      rw [if_neg (fun q => e (huniq m _ hm (by rw [q])).symm)]
      exact hf
  · have hj : (if j = i then some v else f j) = some t := hj
    by_cases e : j = i
    · subst e
      rw [if_pos rfl] at hj
      cases hj
      exact List.mem_of_getElem? (i := k) (by rw [List.getElem?_set, if_pos rfl, if_pos hkl])
    · rw [if_neg e] at hj
      obtain ⟨m, hm⟩ := List.getElem?_of_mem (h.2 j t hj)
      refine List.mem_of_getElem? (i := m) ?_
      rw [List.getElem?_set, if_neg (fun q => ?_)]
      · exact hm
      · subst q
        rw [hk] at hm
        cases hm
        exact e rfl
theorem key_int (i : Int) : MapKept.IsKey (.int .i64) (.int .i64 i) := by simp [MapKept.IsKey]
/-- Who gave a piece is written. -/
theorem gave_put {w : World} {B SB cap MB : Nat} {ps : List Nat} {c : CliV} {G : List (Value × Value)} {f : Nat → Option Nat} (h : CliAt w B SB cap MB ps c G) (hG : GvAt G f) (i v : Nat) :
    ∃ w' G', (Instr.mapUpdate 32 (.map (some MB)) (.int .i64 i) (.int .i64 v)).run Tryz.prog w = .ok () w' ∧ CliAt w' B SB cap MB ps c G' ∧ GvAt G' (fun j => if j = i then some v else f j) ∧ Mod (fun q => q = MB) w w' := by
  by_cases hn : ∀ x ∈ G, x.1 ≠ .int .i64 i
  · obtain ⟨w', h1, h2, h3⟩ := h.gave.put_no (P := Tryz.prog) Tryz.underlying32 Tryz.underlying3 (key_int i) hn (.int .i64 v)
    exact ⟨w', _, h1, h.map h2 h3, hG.put_no hn v, h3⟩
  · obtain ⟨x, hx, he⟩ : ∃ x ∈ G, x.1 = .int .i64 i := by
      by_cases q : ∃ x ∈ G, x.1 = .int .i64 i
      · exact q
      · exact absurd (fun x hx e => q ⟨x, hx, e⟩) hn
    obtain ⟨k, hk⟩ := List.getElem?_of_mem hx
    obtain ⟨x1, x2⟩ := x
    simp only at he
    subst he
    obtain ⟨w', h1, h2, h3⟩ := h.gave.put_at (P := Tryz.prog) Tryz.underlying32 Tryz.underlying3 (key_int i) hk (.int .i64 v)
    exact ⟨w', _, h1, h.map h2 h3, hG.put_at h.gave.keys.1 hk v, h3⟩
/-- Pieces taken out, j from a on. -/
def clearW (s : List UInt8) (a : Nat) : Nat → List UInt8
  | 0 => s
  | j + 1 => setL (clearW s a j) (a + j) false
def gaveTo (f : Nat → Option Nat) (a web : Nat) : Nat → Nat → Option Nat
  | 0 => f
  | j + 1 => fun i => if i = a + j then some web else gaveTo f a web j i
end Go.Proofs.YtnhgichiedninaaGreatDoor
