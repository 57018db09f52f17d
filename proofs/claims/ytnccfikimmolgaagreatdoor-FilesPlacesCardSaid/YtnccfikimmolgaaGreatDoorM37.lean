/-
  Several texts in one, in their build order. The walks of Where and Of, whatever is asked. Conditions: the list lies as told; the library's table is as laid.
-/
import Derived.Test.YtnccfikimmolgaaGreatDoorM36
import Derived.Deep.RegionHeld3
namespace Go.Proofs.YtnccfikimmolgaaGreatDoor
set_option linter.unusedSimpArgs false
set_option linter.unusedVariables false
open Go.RowKit Go.Shelf

def fileIx (l : List FileV) (i : Int) : Option FileV := if 0 ≤ i then l[i.toNat]? else none
theorem fileIx_none {l : List FileV} {i : Int} (h : fileIx l i = none) : i < 0 ∨ (0 ≤ i ∧ (l.length : Int) ≤ i) := by
  unfold fileIx at h
  split at h
  · rw [List.getElem?_eq_none_iff] at h
    right
    omega
  · left
    omega
theorem fileIx_some {l : List FileV} {i : Int} {f : FileV} (h : fileIx l i = some f) : ∃ k : Nat, i = k ∧ ∃ hk : k < l.length, l[k] = f := by
  unfold fileIx at h
  split at h
  · next h0 =>
    obtain ⟨hk, e⟩ := List.getElem?_eq_some_iff.1 h
    exact ⟨i.toNat, by omega, hk, e⟩
  · cases h
def placeErr (l : List FileV) (piece : Int) (new : Bool) (file at' : Int) : Int :=
  if wayErr l piece = 0 then (match fileIx l file with | some f => (if 0 ≤ at' ∧ at' < f.len then (if new && f.pad then 10 else 0) else 7) | none => 7) else wayErr l piece
def placeI (l : List FileV) (piece : Int) (new : Bool) (file at' : Int) : Int := if placeErr l piece new file at' = 0 then atI l piece new file.toNat at' else 0
def placeB (l : List FileV) (piece : Int) (new : Bool) (file at' : Int) : Int := if placeErr l piece new file at' = 0 then atB l piece new file.toNat at' else 0
theorem ret_3 {x y z x' y' z' : Int} (h1 : x = x') (h2 : y = y') (h3 : z = z') : Ending.returned (.tuple #[.int .i64 x, .int .i64 y, .int .i64 z]) = .returned (.tuple #[.int .i64 x', .int .i64 y', .int .i64 z']) := by rw [h1, h2, h3]
set_option maxRecDepth 100000 in
set_option maxHeartbeats 2000000 in
theorem Where_bad (a : Option Addr) (c : Nat) (l : List FileV) (piece file at' : Int) (new : Bool) (w : World) (h : FilesAt w a c l) (ht : Tab w) (h0 : -9223372036854775808 ≤ piece) (h1 : piece ≤ 9223372036854775807) (hb : wayErr l piece ≠ 0) :
    Calls Tryz.prog 7 #[.slice a l.length c, .int .i64 piece, .bool new, .int .i64 file, .int .i64 at'] w fun e w' => e = .returned (.tuple #[.int .i64 0, .int .i64 0, .int .i64 (wayErr l piece)]) ∧ New w w' := by
  have HWY := hid (ways_bad a c l piece new w h ht h0 h1 hb)
  have h3 : ((wayErr l piece) == 0) = false := by simpa using hb
  have h4 : ((wayErr l piece) != 0) = true := by simpa using hb
  clear h ht hb
  go_enter Tryz.func7, Tryz.ntmps7
  go_wp2_with (go_at_call 31; refine HWY.out.mono ?_; rintro e w1 ⟨rfl, h1⟩; have H1 := hid h1; clear h1)
  go_ret3
  exact ⟨rfl, H1.out⟩
set_option maxRecDepth 100000 in
set_option maxHeartbeats 4000000 in
theorem Where_out (a : Option Addr) (c : Nat) (l : List FileV) (piece file at' : Int) (new : Bool) (w : World) (h : FilesAt w a c l) (ht : Tab w) (h0 : -9223372036854775808 ≤ piece) (h1 : piece ≤ 9223372036854775807) (hb : wayErr l piece = 0) (ho : fileIx l file = none ∨ ∃ f, fileIx l file = some f ∧ (at' < 0 ∨ f.len ≤ at')) :
    Calls Tryz.prog 7 #[.slice a l.length c, .int .i64 piece, .bool new, .int .i64 file, .int .i64 at'] w fun e w' => e = .returned (.tuple #[.int .i64 0, .int .i64 0, .int .i64 7]) ∧ New w w' := by
  have HWY := hid (ways_ok a c l piece new w h ht h0 h1 hb)
  have hr := h.room; have hc := h.cap
  unfold maxLen at hc
  have HFA := hid h
  clear h ht hb
  rcases ho with ho | ⟨f, ho, hat⟩
  · rcases fileIx_none ho with h2 | ⟨h2, h3⟩
    · clear ho
      cases new
      all_goals
        go_enter Tryz.func7, Tryz.ntmps7
        go_wp2_with (first | (go_at_call 31; refine HWY.out.mono ?_; simp only [wayV, if_true, Bool.false_eq_true, if_false]; rintro e w1 ⟨rfl, h1⟩; have H1 := hid h1; clear h1))
        go_ret3
        exact ⟨rfl, H1.out⟩
    · clear ho
      cases new
      all_goals
        go_enter Tryz.func7, Tryz.ntmps7
        go_wp2_with (first | (go_at_call 31; refine HWY.out.mono ?_; simp only [wayV, if_true, Bool.false_eq_true, if_false]; rintro e w1 ⟨rfl, h1⟩; have H1 := hid h1; clear h1))
        go_ret3
        exact ⟨rfl, H1.out⟩
  · obtain ⟨k, rfl, hk, hf⟩ := fileIx_some ho
    obtain ⟨b1, o1, rfl, hb1, hc1⟩ := HFA.out.get (by omega)
    have hkI : (k : Int) < (l.length : Int) := by omega
    have HC1 := hid (fun W (n : New w W) => (hc1 k hk).new n)
    rw [hf] at HC1
    clear ho hf hc1
    rcases hat with h2 | h2
    · cases new
      all_goals
        go_enter Tryz.func7, Tryz.ntmps7
        go_wp2_with (first | (go_at_call 31; refine HWY.out.mono ?_; simp only [wayV, if_true, Bool.false_eq_true, if_false]; rintro e w1 ⟨rfl, h1⟩; have H1 := hid h1; clear h1))
        go_ret3
        exact ⟨rfl, H1.out⟩
    · by_cases h3 : at' < 0
      · cases new
        all_goals
          go_enter Tryz.func7, Tryz.ntmps7
          go_wp2_with (first | (go_at_call 31; refine HWY.out.mono ?_; simp only [wayV, if_true, Bool.false_eq_true, if_false]; rintro e w1 ⟨rfl, h1⟩; have H1 := hid h1; clear h1))
          go_ret3
          exact ⟨rfl, H1.out⟩
      · cases new
        all_goals
          go_enter Tryz.func7, Tryz.ntmps7
          go_wp2_with fail
          refine HWY.out.mono ?_
          simp only [wayV, if_true, Bool.false_eq_true, if_false]
          rintro e w1 ⟨rfl, n1⟩
          have H1 := hid n1
          obtain ⟨pa, pc, d0, d1, d2, -, -⟩ := HC1.out w1 n1
          clear n1
          go_wp2
          go_ret3
          exact ⟨rfl, H1.out⟩
theorem nila_has (v : Value) (w : World) : (nilAhead 308 105 v "covey/files.has").run Tryz.prog w = .ok (some false) w := by kernel_rfl
theorem nilr_has (v : Value) (w : World) : (nilAhead 308 106 v "covey/files.has").run Tryz.prog w = .ok (some false) w := by kernel_rfl
theorem nila_at (v : Value) (w : World) : (nilAhead 308 105 v "covey/files.at").run Tryz.prog w = .ok (some false) w := by kernel_rfl
theorem nilr_at (v : Value) (w : World) : (nilAhead 308 106 v "covey/files.at").run Tryz.prog w = .ok (some false) w := by kernel_rfl
set_option maxRecDepth 100000 in
set_option maxHeartbeats 4000000 in
theorem Where_in (a : Option Addr) (c : Nat) (l : List FileV) (piece at' : Int) (k : Nat) (new : Bool) (w : World) (h : FilesAt w a c l) (ht : Tab w) (h0 : -9223372036854775808 ≤ piece) (h1 : piece ≤ 9223372036854775807) (hb : wayErr l piece = 0) (hk : k < l.length) (a0 : 0 ≤ at') (a1 : at' < l[k].len) :
    Calls Tryz.prog 7 #[.slice a l.length c, .int .i64 piece, .bool new, .int .i64 k, .int .i64 at'] w fun e w' => e = .returned (if new && l[k].pad then .tuple #[.int .i64 0, .int .i64 0, .int .i64 10] else .tuple #[.int .i64 (atI l piece new k at'), .int .i64 (atB l piece new k at'), .int .i64 0]) ∧ New w w' := by
  obtain ⟨hv, hpp⟩ := way_ok hb
  obtain ⟨v1, v2, v3, v4⟩ := valid_facts hv
  have v5 := each_len v3
  obtain ⟨p1, p2⟩ := piece_range hpp
  have HWY := hid (ways_ok a c l piece new w h ht h0 h1 hb)
  have hr := h.room; have hc := h.cap
  unfold maxLen at hc
  have hat : at' ≤ 65536 := by have := v5 _ (List.getElem_mem hk); omega
  have HRA := hid (fun W (n : New w W) => row_at a c l piece k at' W (h.new n) hk v3 v4 p1 p2 a0 hat)
  have HAA := hid (fun W (n : New w W) => apart_at a c l piece k at' W (h.new n) v2 hk (fun f hf => ⟨v3 f hf, by have := v5 f hf; omega⟩) p1 p2 a0 hat)
  obtain ⟨b1, o1, rfl, hb1, hc1⟩ := h.get (by omega)
  have hkI : (k : Int) < (l.length : Int) := by omega
  have HC1 := hid (fun W (n : New w W) => (hc1 k hk).new n)
  obtain ⟨f, hf⟩ : ∃ f, f = l[k] := ⟨_, rfl⟩
  rw [← hf] at HC1 a1 ⊢
  have m1 := meth_ahas; have m2 := meth_rhas; have m3 := meth_aat; have m4 := meth_rat
  have n1 := nila_has; have n2 := nilr_has; have n3 := nila_at; have n4 := nilr_at
  have hmf : ∀ (fn : Fn) (first cap : Array Value) (w : World), (Instr.makeFunc fn first cap).run Tryz.prog w = .ok (.func fn first cap) w := fun _ _ _ _ => rfl
  clear h ht hb hv hpp v1 v2 v3 v4 v5 hc1 hf
  cases new with
  | true =>
    obtain ⟨I, hI⟩ : ∃ I, I = atI l piece true k at' := ⟨_, rfl⟩
    obtain ⟨B, hB⟩ : ∃ B, B = atB l piece true k at' := ⟨_, rfl⟩
    rw [← hI, ← hB] at HAA ⊢
    clear HRA hI hB
    have HHS := hid (fun pa pc W => has_any (some ⟨b1, o1, none⟩) l.length c piece pa pc f W)
    cases hpad : f.pad with
    | true =>
      have e : hasN f = false := by simp [hasN, hpad]
      rw [e] at HHS
      rw [show (true && true) = true from rfl, if_pos rfl]
      clear e hpad
      go_enter Tryz.func7, Tryz.ntmps7
      go_wp2_with fail
      refine HWY.out.mono ?_
      simp only [wayV, if_true, Bool.false_eq_true, if_false]
      rintro e w1 ⟨rfl, nw⟩
      have H1 := hid nw
      obtain ⟨pa, pc, d0, d1, d2, -, -⟩ := HC1.out w1 nw
      have hbw : b1 < w1.heap.size := by have := nw.size; omega
      clear nw
      go_wp2
      go_region_held3 (fun w' => w'.cell? ⟨b1, o1 + k * 3, none⟩ = some (.slice pa f.path.length pc) ∧ w'.cell? ⟨b1, o1 + k * 3 + 1, none⟩ = some (.int .i64 f.len) ∧ w'.cell? ⟨b1, o1 + k * 3 + 2, none⟩ = some (.bool f.pad)) ((first | exact ⟨r0, r1, r2⟩ | go_keep)) ((go_at_call 167; (with_reducible refine (HHS.out pa pc _).mono ?_); rintro e w2 ⟨rfl, n2⟩; have N2 := hid (Mod.trans (Mod.drew H1.out) n2); have r0 := n2.cellv d0; have r1 := n2.cellv d1; have r2 := n2.cellv d2; clear n2))
      go_wp2
      go_ret3
      exact ⟨rfl, N2.out⟩
    | false =>
      have e : hasN f = true := by simp [hasN, hpad]; omega
      rw [e] at HHS
      rw [show (true && false) = false from rfl, if_neg (by decide)]
      clear e hpad
      go_enter Tryz.func7, Tryz.ntmps7
      go_wp2_with fail
      refine HWY.out.mono ?_
      simp only [wayV, if_true, Bool.false_eq_true, if_false]
      rintro e w1 ⟨rfl, nw⟩
      have H1 := hid nw
      obtain ⟨pa, pc, d0, d1, d2, -, -⟩ := HC1.out w1 nw
      have hbw : b1 < w1.heap.size := by have := nw.size; omega
      clear nw
      go_wp2
      go_region_held3 (fun w' => w'.cell? ⟨b1, o1 + k * 3, none⟩ = some (.slice pa f.path.length pc) ∧ w'.cell? ⟨b1, o1 + k * 3 + 1, none⟩ = some (.int .i64 f.len) ∧ w'.cell? ⟨b1, o1 + k * 3 + 2, none⟩ = some (.bool f.pad)) ((first | exact ⟨r0, r1, r2⟩ | go_keep)) ((go_at_call 167; (with_reducible refine (HHS.out pa pc _).mono ?_); rintro e w2 ⟨rfl, n2⟩; have N2 := hid (Mod.trans (Mod.drew H1.out) n2); have r0 := n2.cellv d0; have r1 := n2.cellv d1; have r2 := n2.cellv d2; clear n2))
      go_wp2_with fail
      refine (HAA.out _ N2.out).mono ?_
      rintro e w3 ⟨rfl, n3⟩
      have N3 := hid (N2.out.trans n3)
      clear n3
      go_wp2
      go_ret3
      exact ⟨rfl, N3.out⟩
  | false =>
    obtain ⟨I, hI⟩ : ∃ I, I = atI l piece false k at' := ⟨_, rfl⟩
    obtain ⟨B, hB⟩ : ∃ B, B = atB l piece false k at' := ⟨_, rfl⟩
    rw [← hI, ← hB] at HRA ⊢
    clear HAA hI hB
    have HHS := hid (fun pa pc W => rowhas_any (some ⟨b1, o1, none⟩) l.length c piece pa pc f W)
    have e : hasW false f = true := by simp [hasW]; omega
    rw [e] at HHS
    rw [Bool.false_and, if_neg (by decide)]
    clear e
    go_enter Tryz.func7, Tryz.ntmps7
    go_wp2_with fail
    refine HWY.out.mono ?_
    simp only [wayV, if_true, Bool.false_eq_true, if_false]
    rintro e w1 ⟨rfl, nw⟩
    have H1 := hid nw
    obtain ⟨pa, pc, d0, d1, d2, -, -⟩ := HC1.out w1 nw
    have hbw : b1 < w1.heap.size := by have := nw.size; omega
    clear nw
    go_wp2
    go_region_held3 (fun w' => w'.cell? ⟨b1, o1 + k * 3, none⟩ = some (.slice pa f.path.length pc) ∧ w'.cell? ⟨b1, o1 + k * 3 + 1, none⟩ = some (.int .i64 f.len) ∧ w'.cell? ⟨b1, o1 + k * 3 + 2, none⟩ = some (.bool f.pad)) ((first | exact ⟨r0, r1, r2⟩ | go_keep)) ((go_at_call 173; (with_reducible refine (HHS.out pa pc _).mono ?_); rintro e w2 ⟨rfl, n2⟩; have N2 := hid (Mod.trans (Mod.drew H1.out) n2); have r0 := n2.cellv d0; have r1 := n2.cellv d1; have r2 := n2.cellv d2; clear n2))
    go_wp2_with fail
    refine (HRA.out _ N2.out).mono ?_
    rintro e w3 ⟨rfl, n3⟩
    have N3 := hid (N2.out.trans n3)
    clear n3
    go_wp2
    go_ret3
    exact ⟨rfl, N3.out⟩
theorem Where_any (a : Option Addr) (c : Nat) (l : List FileV) (piece file at' : Int) (new : Bool) (w : World) (h : FilesAt w a c l) (ht : Tab w) (h0 : -9223372036854775808 ≤ piece) (h1 : piece ≤ 9223372036854775807) :
    Calls Tryz.prog 7 #[.slice a l.length c, .int .i64 piece, .bool new, .int .i64 file, .int .i64 at'] w fun e w' => e = .returned (.tuple #[.int .i64 (placeI l piece new file at'), .int .i64 (placeB l piece new file at'), .int .i64 (placeErr l piece new file at')]) ∧ New w w' := by
  by_cases hb : wayErr l piece = 0
  · cases hx : fileIx l file with
    | none =>
      have e : placeErr l piece new file at' = 7 := by simp [placeErr, hb, hx]
      refine (Where_out a c l piece file at' new w h ht h0 h1 hb (.inl hx)).mono fun e' w' ⟨he, hn⟩ => ⟨?_, hn⟩
      rw [he, placeI, placeB, e, if_neg (by decide), if_neg (by decide)]
    | some f =>
      by_cases ha : 0 ≤ at' ∧ at' < f.len
      · obtain ⟨k, rfl, hk, hf⟩ := fileIx_some hx
        subst hf
        have e : placeErr l piece new k at' = if new && l[k].pad then 10 else 0 := by simp [placeErr, hb, hx, ha]
        refine (Where_in a c l piece at' k new w h ht h0 h1 hb hk ha.1 ha.2).mono fun e' w' ⟨he, hn⟩ => ⟨?_, hn⟩
        rw [he, placeI, placeB, e]
        cases hq : (new && l[k].pad) with
        | true => rfl
        | false => rfl
      · have e : placeErr l piece new file at' = 7 := by simp only [placeErr, hb, hx, if_true, if_neg ha]
        refine (Where_out a c l piece file at' new w h ht h0 h1 hb (.inr ⟨f, hx, by omega⟩)).mono fun e' w' ⟨he, hn⟩ => ⟨?_, hn⟩
        rw [he, placeI, placeB, e, if_neg (by decide), if_neg (by decide)]
  · have e : placeErr l piece new file at' = wayErr l piece := by simp [placeErr, hb]
    refine (Where_bad a c l piece file at' new w h ht h0 h1 hb).mono fun e' w' ⟨he, hn⟩ => ⟨?_, hn⟩
    rw [he, placeI, placeB, e, if_neg hb, if_neg hb]
end Go.Proofs.YtnccfikimmolgaaGreatDoor
