/-
  Several texts in one, in their build order. The walk of joined (package web): the parts of files that a run needs, those that touch joined. Conditions: the list lies as told; the run is one.
-/
import Derived.Test.YtnhgichiedninaaGreatDoorM25
import Derived.Maps.OwnIn
import Derived.Test.YtnhgichiedninaaGreatDoorM30
namespace Go.Proofs.YtnhgichiedninaaGreatDoor
set_option linter.unusedSimpArgs false
set_option linter.unusedVariables false
open Go.RowKit Go.Shelf
attribute [local go_sem] Oper.semAt_some

/-- The world behind the making of the iterator: its four variables. -/
abbrev itW (w : World) (a : Option Addr) (n c : Nat) (piece : Int) (new : Bool) (fr cn : Int) : World :=
  (((w.alloc (.cells #[.slice a n c] 54)).alloc (.cells #[.int .i64 piece] 3)).alloc (.cells #[.bool new] 4)).alloc (.cells #[.int .i64 fr, .int .i64 cn] 34)
abbrev itLb (B : Nat) : Array Value := #[.pointer (some ⟨B + 3, 0, none⟩), .pointer (some ⟨B, 0, none⟩), .pointer (some ⟨B + 1, 0, none⟩), .pointer (some ⟨B + 2, 0, none⟩)]
set_option maxRecDepth 100000 in
theorem wspans_any (a : Option Addr) (n c : Nat) (piece : Int) (new : Bool) (fr cn : Int) (w : World) :
    Calls Tryz.prog 65 #[.slice a n c, .int .i64 piece, .bool new, .agg #[.int .i64 fr, .int .i64 cn]] w fun e w' => e = .returned (.func (.func 95) #[] (itLb w.heap.size)) ∧ w' = itW w a n c piece new fr cn := by
  have hmf : ∀ (fn : Fn) (first cap : Array Value) (w : World), (Instr.makeFunc fn first cap).run Tryz.prog w = .ok (.func fn first cap) w := fun _ _ _ _ => rfl
  go_enter Tryz.func65, Tryz.ntmps65
  go_wp2
  go_ret
  exact ⟨rfl, rfl⟩
theorem it_blocks (w : World) (a : Option Addr) (n c : Nat) (piece : Int) (new : Bool) (fr cn : Int) :
    Blk (itW w a n c piece new fr cn) w.heap.size #[.slice a n c] 54 ∧ Blk (itW w a n c piece new fr cn) (w.heap.size + 1) #[.int .i64 piece] 3 ∧ Blk (itW w a n c piece new fr cn) (w.heap.size + 2) #[.bool new] 4 ∧ Blk (itW w a n c piece new fr cn) (w.heap.size + 3) #[.int .i64 fr, .int .i64 cn] 34 ∧ New w (itW w a n c piece new fr cn) :=
  ⟨(((Blk.new w _ _).alloc _).alloc _).alloc _, ((Blk.newAt (by simp)).alloc _).alloc _, (Blk.newAt (by simp)).alloc _, Blk.newAt (by simp), ((((Mod.refl _ _).alloc _).alloc _).alloc _).alloc _⟩
theorem spanRow_app (S T : List SpanV) : spanRow (S ++ T) = spanRow S ++ spanRow T := by unfold spanRow; rw [List.flatMap_append]
theorem spanRow_len : ∀ S : List SpanV, (spanRow S).length = S.length * 3
  | [] => rfl
  | s :: S => by
    have e : spanRow (s :: S) = spanCells s ++ spanRow S := rfl
    rw [e, List.length_append, spanRow_len S, List.length_cons]
    simp [spanCells]
    omega
/-- The last span's count is written anew. -/
theorem OwnS.last {w : World} {base g cap : Nat} {T : List SpanV} {p : SpanV} (h : OwnS w base (.slice (some ⟨g, 0, none⟩) (T.length + 1) cap) (T ++ [p])) (x : Int) : OwnS (w.setCell ⟨g, T.length * 3 + 2, none⟩ (.int .i64 x)) base (.slice (some ⟨g, 0, none⟩) (T.length + 1) cap) (T ++ [⟨p.file, p.frm, x⟩]) := by
  unfold OwnS at *
  have hl : (T ++ [p]).length = T.length + 1 := by simp
  have hl2 : (T ++ [(⟨p.file, p.frm, x⟩ : SpanV)]).length = T.length + 1 := by simp
  rw [hl] at h
  rw [hl2]
  have e0 : spanRow [p] = [.int .i64 p.file, .int .i64 p.frm, .int .i64 p.cnt] := rfl
  have e1 : spanRow [(⟨p.file, p.frm, x⟩ : SpanV)] = [.int .i64 p.file, .int .i64 p.frm, .int .i64 x] := rfl
  have es : spanRow (T ++ [⟨p.file, p.frm, x⟩]) = (spanRow (T ++ [p])).set (T.length * 3 + 2) (.int .i64 x) := by
    rw [spanRow_app, spanRow_app, e0, e1, List.set_append_right _ _ (by rw [spanRow_len]; omega), spanRow_len, show T.length * 3 + 2 - T.length * 3 = 2 by omega]
    rfl
  rcases h.2 with ⟨q, -⟩ | ⟨g', cap', cur, q, hbg, hg, hnc, hcm, hcs, htake⟩
  · cases q
  · injection q with q1 q2 q3
    injection q1 with q1
    injection q1 with q1
    subst q1 q3
    have hb : Blk w g cur 113 := hg
    have hs := hb.set (T.length * 3 + 2) (.int .i64 x)
    refine ⟨by rw [es, List.length_set]; exact h.1, .inr ⟨g, cap, cur.setIfInBounds (T.length * 3 + 2) (.int .i64 x), rfl, hbg, hs, hnc, hcm, by simpa using hcs, ?_⟩⟩
    rw [es, Array.toList_setIfInBounds, ← htake]
    apply List.ext_getElem?
    intro j
    rw [List.getElem?_take, List.getElem?_set, List.getElem?_set, List.getElem?_take, List.length_take]
    by_cases h1 : j < (T.length + 1) * 3
    · rw [if_pos h1, if_pos h1]
      by_cases h2 : T.length * 3 + 2 = j
      · rw [if_pos h2, if_pos h2]
        by_cases h3 : T.length * 3 + 2 < cur.toList.length
        · rw [if_pos h3, if_pos (by omega)]
        · rw [if_neg h3, if_neg (by omega)]
      · rw [if_neg h2, if_neg h2]
    · rw [if_neg h1, if_neg h1, if_neg (by omega)]
/-- The cells of the last one. -/
theorem OwnS.lastCells {w : World} {base : Nat} {v : Value} {T : List SpanV} {p : SpanV} (h : OwnS w base v (T ++ [p])) : ∃ g cap, v = .slice (some ⟨g, 0, none⟩) (T.length + 1) cap ∧ base ≤ g ∧ g < w.heap.size ∧ T.length + 1 ≤ cap ∧ cap ≤ maxLen ∧ w.cell? ⟨g, T.length * 3, none⟩ = some (.int .i64 p.file) ∧ w.cell? ⟨g, T.length * 3 + 1, none⟩ = some (.int .i64 p.frm) ∧ w.cell? ⟨g, T.length * 3 + 2, none⟩ = some (.int .i64 p.cnt) ∧ (∀ i, w.frozen? ⟨g, i, none⟩ = false) := by
  have h0 := h
  have hl : (T ++ [p]).length = T.length + 1 := by simp
  unfold OwnS at h
  rw [hl] at h
  rcases h.2 with ⟨-, q⟩ | ⟨g, cap, cur, rfl, hbg, hg, hnc, hcm, hcs, htake⟩
  · simp at q
  · have hc : ∀ j u, j < 3 → (spanCells p)[j]? = some u → w.cell? ⟨g, T.length * 3 + j, none⟩ = some u := by
      intro j u hj hu
      have h1 := World.ownsRow.cells (g := g) h rfl (T.length * 3 + j) u (by
        rw [spanRow_app, List.getElem?_append_right (by rw [spanRow_len]; omega), spanRow_len, show T.length * 3 + j - T.length * 3 = j by omega]
        exact hu)
      rw [add_none] at h1
      simpa using h1
    exact ⟨g, cap, rfl, hbg, (Array.getElem?_eq_some_iff.1 hg).1, hnc, hcm, by simpa using hc 0 _ (by omega) rfl, hc 1 _ (by omega) rfl, hc 2 _ (by omega) rfl, fun i => by simp [World.frozen?, hg]⟩
/-- What lies about joined's loop; s = the world's size when joined begins. -/
structure JEnv (w : World) (a : Option Addr) (c : Nat) (l : List FileV) (piece : Int) (new : Bool) (fr : Int) (n : Nat) (lo : Obj) (v : Value) (T : List SpanV) (W : World) : Prop where
  l4 : Blk W w.heap.size #[.slice a l.length c] 54
  ob : Blk W (w.heap.size + 2) #[v] 65
  ow : OwnS W (w.heap.size + 9) v T
  b0 : Blk W (w.heap.size + 3) #[.slice a l.length c] 54
  b1 : Blk W (w.heap.size + 3 + 1) #[.int .i64 piece] 3
  b2 : Blk W (w.heap.size + 3 + 2) #[.bool new] 4
  b3 : Blk W (w.heap.size + 3 + 3) #[.int .i64 fr, .int .i64 n] 34
  hD : W.heap[w.heap.size + 7]? = some (.deferred (some []))
  hL : W.heap[w.heap.size + 8]? = some lo
  new' : New w W
theorem OwnS.blk {w : World} {base g : Nat} {v : Value} {S : List SpanV} (h : OwnS w base v S) (hv : v.ownBlock = some g) : base ≤ g ∧ g < w.heap.size := by
  rcases h.2 with ⟨rfl, -⟩ | ⟨g', cap, cur, rfl, hbg, hg, -⟩
  · cases hv
  · injection hv with hv
    subst hv
    exact ⟨hbg, (Array.getElem?_eq_some_iff.1 hg).1⟩
theorem JEnv.step {w : World} {a : Option Addr} {c : Nat} {l : List FileV} {piece : Int} {new : Bool} {fr : Int} {n : Nat} {lo : Obj} {v : Value} {T : List SpanV} {W W' : World} (h : JEnv w a c l piece new fr n lo v T W) (hm : New W W') : JEnv w a c l piece new fr n lo v T W' := by
  obtain ⟨h1, h2, h3, h4, h5, h6, h7, h8, h9, h10⟩ := h
  exact ⟨New.blk hm h1, New.blk hm h2, owns_mod h3 hm (fun _ _ q => q), New.blk hm h4, New.blk hm h5, New.blk hm h6, New.blk hm h7, (hm.block _ (Array.getElem?_eq_some_iff.1 h8).1 (fun q => q)).trans h8, (hm.block _ (Array.getElem?_eq_some_iff.1 h9).1 (fun q => q)).trans h9, Mod.trans h10 hm⟩
/-- A block that joined's rounds leave alone. -/
def JFar (w : World) (W : World) (b : Nat) : Prop := b ≠ w.heap.size + 2 ∧ b ≠ w.heap.size + 8 ∧ ∀ v, Blk W (w.heap.size + 2) #[v] 65 → some b ≠ v.ownBlock
theorem Blk.inj {w : World} {b : Nat} {x y : Value} {t : TypeId} (h : Blk w b #[x] t) (k : Blk w b #[y] t) : x = y := by
  have := h.cellv (v := x) 0 rfl
  rw [k.cellv (v := y) 0 rfl] at this
  injection this with this
  exact this.symm
theorem JEnv.far {w : World} {a : Option Addr} {c : Nat} {l : List FileV} {piece : Int} {new : Bool} {fr : Int} {n : Nat} {lo : Obj} {v : Value} {T : List SpanV} {W W' : World} (h : JEnv w a c l piece new fr n lo v T W) (hm : New W W') {b : Nat} (hb : W.heap.size ≤ b ∨ JFar w W b) : JFar w W' b := by
  have hl := (Array.getElem?_eq_some_iff.1 h.hL).1
  have hk : Blk W' (w.heap.size + 2) #[v] 65 := New.blk hm h.ob
  rcases hb with hb | ⟨h1, h2, h3⟩
  · refine ⟨by omega, by omega, fun u hu q => ?_⟩
    rw [Blk.inj hu hk] at q
    have := (h.ow.blk q.symm).2
    omega
  · refine ⟨h1, h2, fun u hu q => ?_⟩
    rw [Blk.inj hu hk] at q
    exact h3 v h.ob q
theorem JEnv.put {w : World} {a : Option Addr} {c : Nat} {l : List FileV} {piece : Int} {new : Bool} {fr : Int} {n : Nat} {lo lo' : Obj} {v : Value} {T : List SpanV} {W : World} (h : JEnv w a c l piece new fr n lo v T W) (hno : ∀ cur t, lo ≠ .cells cur t (0, 0)) : JEnv w a c l piece new fr n lo' v T (W.putObj (w.heap.size + 8) lo') := by
  have hl := (Array.getElem?_eq_some_iff.1 h.hL).1
  have hne : v.ownBlock ≠ some (w.heap.size + 8) := fun q => owns_ne h.ow h.hL (fun cur => hno cur _) q.symm
  obtain ⟨h1, h2, h3, h4, h5, h6, h7, h8, h9, h10⟩ := h
  exact ⟨Blk.putObj (by omega) h1, Blk.putObj (by omega) h2, World.ownsRow.kept h3 (grown_put W _ _) (.inr hne), Blk.putObj (by omega) h4, Blk.putObj (by omega) h5, Blk.putObj (by omega) h6, Blk.putObj (by omega) h7, ob_put (by omega) h8, World.putObj_heap_same hl, Mod.putObj h10 _ _ (.inr (by omega))⟩
theorem loop_no (x : Loop) : ∀ cur t, Obj.loop x ≠ .cells cur t (0, 0) := by intro cur t q; cases q
/-- Behind a round: what was there but the box, the list's own block and the loop's record is as it was. -/
theorem JEnv.keeps {w : World} {a : Option Addr} {c : Nat} {l : List FileV} {piece : Int} {new : Bool} {fr : Int} {n : Nat} {lo lo' : Obj} {v v' : Value} {T T' : List SpanV} {W W' : World} (h : JEnv w a c l piece new fr n lo v T W) (h' : JEnv w a c l piece new fr n lo' v' T' W')
    (hm : Mod (fun k => k = w.heap.size + 2 ∨ k = w.heap.size + 8 ∨ some k = v.ownBlock) W W') (hv : v'.ownBlock = v.ownBlock ∨ ∃ g, v'.ownBlock = some g ∧ W.heap.size ≤ g) {b : Nat} (hb : b < W.heap.size) (hf : JFar w W b) : W'.heap[b]? = W.heap[b]? ∧ JFar w W' b := by
  obtain ⟨h1, h2, h3⟩ := hf
  have h4 := h3 v h.ob
  refine ⟨hm.block b hb (by rintro (q | q | q); exact h1 q; exact h2 q; exact h4 q), h1, h2, fun u hu q => ?_⟩
  rw [Blk.inj hu h'.ob] at q
  rcases hv with e | ⟨g, e, hg⟩
  · rw [e] at q; exact h4 q
  · rw [e] at q
    injection q with q
    omega
theorem JEnv.push {w : World} {a : Option Addr} {c : Nat} {l : List FileV} {piece : Int} {new : Bool} {fr : Int} {n : Nat} {lo : Obj} {v v' : Value} {T T' : List SpanV} {W W' : World} (h : JEnv w a c l piece new fr n lo v T W) (hg : W.grownBy W' v.ownBlock) (ho : OwnS W' (w.heap.size + 9) v' T') :
    JEnv w a c l piece new fr n lo v' T' (W'.setCell ⟨w.heap.size + 2, 0, none⟩ v') ∧ Mod (fun k => k = w.heap.size + 2 ∨ some k = v.ownBlock) W (W'.setCell ⟨w.heap.size + 2, 0, none⟩ v') := by
  have hk : ∀ k, k < w.heap.size + 9 → some k ≠ v.ownBlock := fun k hk q => by have := (h.ow.blk q.symm).1; omega
  have hm1 : Mod (fun k => some k = v.ownBlock) W W' := Mod.of_grown hg
  have hm2 : Mod (fun k => k = w.heap.size + 2) W' (W'.setCell ⟨w.heap.size + 2, 0, none⟩ v') := Mod.set (S := fun k => k = w.heap.size + 2) (Mod.refl _ _) ⟨w.heap.size + 2, 0, none⟩ _ (.inl rfl)
  have hm : Mod (fun k => k = w.heap.size + 2 ∨ some k = v.ownBlock) W (W'.setCell ⟨w.heap.size + 2, 0, none⟩ v') := (hm1.mono (fun k _ q => .inr q)).trans' hm2 (fun k _ q => .inl q)
  have hb : ∀ k, k < w.heap.size + 9 → k ≠ w.heap.size + 2 → ¬ (k = w.heap.size + 2 ∨ some k = v.ownBlock) := fun k h1 h2 q => by rcases q with q | q; exact h2 q; exact hk k h1 q
  refine ⟨⟨hm.blk h.l4 (hb _ (by omega) (by omega)), (hm1.blk h.ob (hk _ (by omega))).set 0 v', ?_, hm.blk h.b0 (hb _ (by omega) (by omega)), hm.blk h.b1 (hb _ (by omega) (by omega)), hm.blk h.b2 (hb _ (by omega) (by omega)), hm.blk h.b3 (hb _ (by omega) (by omega)), ?_, ?_, ?_⟩, hm⟩
  · exact World.ownsRow.kept ho (grown_set W' _ _) (.inr (fun q => absurd (show w.heap.size + 9 ≤ w.heap.size + 2 from (ho.blk q).1) (by omega)))
  · exact (hm.block _ (Array.getElem?_eq_some_iff.1 h.hD).1 (hb _ (by omega) (by omega))).trans h.hD
  · exact (hm.block _ (Array.getElem?_eq_some_iff.1 h.hL).1 (hb _ (by omega) (by omega))).trans h.hL
  · exact h.new'.trans' hm (fun k h1 q => q.elim (fun q => absurd q (by omega)) (fun q => absurd q (hk k (by omega))))
theorem JEnv.over {w : World} {a : Option Addr} {c : Nat} {l : List FileV} {piece : Int} {new : Bool} {fr : Int} {n : Nat} {lo : Obj} {g cap : Nat} {T : List SpanV} {p : SpanV} {W : World} (h : JEnv w a c l piece new fr n lo (.slice (some ⟨g, 0, none⟩) (T.length + 1) cap) (T ++ [p]) W) (x : Int) :
    JEnv w a c l piece new fr n lo (.slice (some ⟨g, 0, none⟩) (T.length + 1) cap) (T ++ [⟨p.file, p.frm, x⟩]) (W.setCell ⟨g, T.length * 3 + 2, none⟩ (.int .i64 x)) ∧ Mod (fun k => some k = (Value.slice (some ⟨g, 0, none⟩) (T.length + 1) cap).ownBlock) W (W.setCell ⟨g, T.length * 3 + 2, none⟩ (.int .i64 x)) := by
  have hg := (h.ow.blk (g := g) rfl).1
  have hm : Mod (fun k => some k = (Value.slice (some ⟨g, 0, none⟩) (T.length + 1) cap).ownBlock) W (W.setCell ⟨g, T.length * 3 + 2, none⟩ (.int .i64 x)) := Mod.set (S := fun k => some k = (Value.slice (some ⟨g, 0, none⟩) (T.length + 1) cap).ownBlock) (Mod.refl _ _) ⟨g, T.length * 3 + 2, none⟩ _ (.inl rfl)
  have hb : ∀ k, k < w.heap.size + 9 → ¬ (some k = (Value.slice (some ⟨g, 0, none⟩) (T.length + 1) cap).ownBlock) := fun k h1 q => by
    have q : some k = some g := q
    injection q with q
    omega
  refine ⟨⟨hm.blk h.l4 (hb _ (by omega)), hm.blk h.ob (hb _ (by omega)), h.ow.last x, hm.blk h.b0 (hb _ (by omega)), hm.blk h.b1 (hb _ (by omega)), hm.blk h.b2 (hb _ (by omega)), hm.blk h.b3 (hb _ (by omega)), ?_, ?_, ?_⟩, hm⟩
  · exact (hm.block _ (Array.getElem?_eq_some_iff.1 h.hD).1 (hb _ (by omega))).trans h.hD
  · exact (hm.block _ (Array.getElem?_eq_some_iff.1 h.hL).1 (hb _ (by omega))).trans h.hL
  · exact h.new'.trans' hm (fun k h1 q => absurd q (hb k (by omega)))
set_option maxRecDepth 100000 in
set_option maxHeartbeats 8000000 in
theorem joined_any (a : Option Addr) (c : Nat) (l : List FileV) (piece : Int) (new : Bool) (fr : Int) (n : Nat) (w : World) (h : FilesAt w a c l) (ht : Tab w) (hv : wayErr l piece = 0) (f0 : 0 ≤ fr) (f1 : fr + n ≤ piecesOf l piece new) :
    Calls Tryz.prog 59 #[.slice a l.length c, .int .i64 piece, .bool new, .agg #[.int .i64 fr, .int .i64 n]] w fun e w' => ∃ v, e = .returned v ∧ OwnS w' w.heap.size v (jnOf l (runSp l piece new fr n)) ∧ New w w' := by
  have HF := hid h; have HT := hid ht
  have HIT := hid (fun lp m hm Inv Far q1 q2 q3 q4 W q5 => wspans_iter a c l piece new fr n (w.heap.size + 3) lp m hm Inv Far q1 q2 q3 q4 W q5 hv f0 f1)
  have HSP := hid (fun W => wspans_any a l.length c piece new fr n W)
  have HPR := hid (fun (T : List (Int × SpanV)) (j : Nat) s rest (q1 : s ∈ spansOf l piece new (fr + (j : Int))) (q2 : T ++ (fr + (j : Int), s) :: rest = runP l piece new fr n) => show InK l s ∧ (jnOf l (T.map (·.2))).length ≤ 2800000 ∧ s.frm + s.cnt ≤ 65536 ∧ ∀ p ∈ jnOf l (T.map (·.2)), 0 ≤ p.frm ∧ 1 ≤ p.cnt ∧ p.frm + p.cnt ≤ 65536 by
    obtain ⟨hvv, hpp⟩ := way_ok hv
    obtain ⟨v1, v2, v3, v4⟩ := valid_facts hvv
    obtain ⟨p1, p2⟩ := piece_range hpp
    have v5 := each_len v3
    obtain ⟨p3, p4⟩ := pieces_le (new := new) hv
    have hin := runs_within new (show 0 < piece by omega) v3 f0 n
    have hsnd := runP_snd l piece new fr n
    rw [← q2, List.map_append, List.map_cons] at hsnd
    have hjp := jn_parts (l := l) (S := T.map (·.2)) (fun x hx => hin x (by rw [← hsnd]; simp only [List.mem_append]; exact .inl hx))
    have hbd : ∀ x, InK l x → 0 ≤ x.frm ∧ 1 ≤ x.cnt ∧ x.frm + x.cnt ≤ 65536 := by
      rintro x ⟨k, f, -, q1, q2, q3, q4⟩
      have := v5 f (List.mem_of_getElem? q1)
      exact ⟨q2, q3, by omega⟩
    have hins := hin s (by rw [← hsnd]; simp)
    refine ⟨hins, ?_, (hbd s hins).2.2, fun p hp => hbd p (hjp.1 p hp).1⟩
    have h1 := hjp.2.2
    have h2 := run_few l piece new fr n
    rw [← hsnd, List.length_append] at h2
    have h3 : n * l.length ≤ 70000 * 40 := Nat.mul_le_mul (by omega) (by omega)
    omega)
  clear h ht hv f0 f1
  refine (callsIn_wide (n := 9)).1 ?_
  refine callsIn_of_wp_marks Tryz.func59 rfl trivial ?_ rfl
  simp only [Tryz.ntmps59, List.size_toArray, List.length_cons, List.length_nil, Nat.reduceAdd, Nat.reduceSub, Array.replicate_succ, Array.replicate_zero, List.push_toArray, List.append_toArray, List.nil_append, List.cons_append]
  gi_wp2_with (refine ⟨trivial, ?_⟩; gi_at_call 65; refine (callsIn_wide.2 (HSP.out _)).mono ?_; rintro e w1 ⟨rfl, rfl⟩)
  refine name_world (p := fun W => Code.wpIn _ _ _ _ _ _ W) (fun W0 hW0 => ?_)
  have hs0 : W0.heap.size = w.heap.size + 7 := by rw [hW0]; simp
  have e3 : (((w.alloc (.cells #[.slice a l.length c] 54)).alloc (.cells #[.int .i64 fr, .int .i64 n] 34)).alloc (.cells #[.slice none 0 0] 65)).heap.size = w.heap.size + 3 := by simp
  obtain ⟨k0, k1, k2, k3, k4⟩ := it_blocks (((w.alloc (.cells #[.slice a l.length c] 54)).alloc (.cells #[.int .i64 fr, .int .i64 n] 34)).alloc (.cells #[.slice none 0 0] 65)) a l.length c piece new fr n
  rw [e3] at k0 k1 k2 k3
  have hW0' : W0 = itW (((w.alloc (.cells #[.slice a l.length c] 54)).alloc (.cells #[.int .i64 fr, .int .i64 n] 34)).alloc (.cells #[.slice none 0 0] 65)) a l.length c piece new fr n := hW0
  rw [← hW0'] at k0 k1 k2 k3 k4
  have hl4 : Blk W0 w.heap.size #[.slice a l.length c] 54 := New.blk k4 (((Blk.new w _ _).alloc _).alloc _)
  have hob : Blk W0 (w.heap.size + 2) #[.slice none 0 0] 65 := New.blk k4 (Blk.newAt (by simp))
  have hn0 : New w W0 := Mod.trans ((((Mod.refl _ w).alloc _).alloc _).alloc _) k4
  clear hW0 hW0' e3 k4
  refine wpIn_range rfl (by omega) (gf := 95) (lb := itLb (w.heap.size + 3)) rfl trivial (enters_of Tryz.func95 (by kernel_rfl) rfl) ?_
  intro fn _ rec hrec
  obtain ⟨i0, hi, hz0, hz1, hz2⟩ := info_parts info_span
  have hst : New W0 ((W0.alloc (.deferred (some []))).alloc (.loop (rec .ready none))) := ((Mod.refl _ _).alloc _).alloc _
  have hl0 : ((W0.alloc (.deferred (some []))).alloc (.loop (rec .ready none))).heap[W0.heap.size + 1]? = some (.loop (rec .ready none)) := by
    have := World.alloc_heap_new (w := W0.alloc (.deferred (some []))) (o := .loop (rec .ready none))
    rwa [World.size_alloc] at this
  have hd0 : ((W0.alloc (.deferred (some []))).alloc (.loop (rec .ready none))).heap[W0.heap.size]? = some (.deferred (some [])) := (Below.heap_alloc _ _ _ (by simp)).trans (World.alloc_heap_new W0 _)
  rw [hs0] at hrec hl0 hd0 ⊢
  have henv : JEnv w a c l piece new fr n (.loop (rec .ready none)) (.slice none 0 0) [] ((W0.alloc (.deferred (some []))).alloc (.loop (rec .ready none))) :=
    ⟨New.blk hst hl4, New.blk hst hob, OwnS.nil _ _, New.blk hst k0, New.blk hst k1, New.blk hst k2, New.blk hst k3, hd0, hl0, Mod.trans hn0 hst⟩
  generalize (W0.alloc (.deferred (some []))).alloc (.loop (rec .ready none)) = W1 at *
  clear hs0 hl4 hob hn0 k0 k1 k2 k3 hst hl0 hd0
  refine (HIT.out (w.heap.size + 8) 8 (by omega) (fun T W => ∃ v, JEnv w a c l piece new fr n (.loop (rec .ready none)) v (jnOf l (T.map (·.2))) W) (JFar w) ?hI ?hN ?hF ?hY _ ⟨_, henv⟩).mono ?fin
  case hI =>
    rintro T W ⟨v, e⟩
    exact ⟨e.b0, e.b1, e.b2, e.b3, HF.out.new e.new', HT.out.new e.new'⟩
  case hN =>
    rintro T W W' ⟨v, e⟩ hn
    exact ⟨v, e.step hn⟩
  case hF =>
    rintro T W W' b ⟨v, e⟩ hn hb
    exact e.far hn hb
  case fin =>
    rintro e W ⟨hv, v, hA⟩
    rw [runP_snd] at hA
    refine ⟨hv, hA.hD, .inl ⟨hA.hL, ?_⟩⟩
    refine name_world (p := fun W => Exit.inBlock _ _ _ _ W) (fun W5 hW5 => ?_)
    have h5 : JEnv w a c l piece new fr n (.loop (rec .exhausted none)) v (jnOf l (runSp l piece new fr n)) W5 := by rw [hW5]; exact hA.put (loop_no _)
    have HA5 := hid h5
    have c9 := h5.ob.cellv (v := v) 0 rfl
    clear hA hW5 h5 hv henv hrec
    gi_wp2
    have hne : v.ownBlock ≠ some (w.heap.size + 7) := fun q => owns_ne HA5.out.ow HA5.out.hD (by intro cur q; cases q) q.symm
    refine ⟨by simp, .inl ⟨_, _, rfl, run_takeDeferred HA5.out.hD, ?_⟩⟩
    refine ⟨v, by simp [results, Tryz.results59, go_sem], ⟨v, rfl, ?_, ?_⟩⟩
    · exact OwnS.base (World.ownsRow.kept HA5.out.ow (grown_put W5 _ _) (.inr hne)) (by omega)
    · exact Mod.putObj HA5.out.new' _ _ (.inr (by omega))
  case hY =>
    rintro T j s W ⟨v, hE⟩ hj hs ⟨rest, hpre⟩
    obtain ⟨⟨kf, f, e1, e2, e3, e4, e5⟩, hlen, hsb, hpb0⟩ := HPR.out T j s rest hs hpre
    have HPB := hid hpb0
    clear hpb0
    obtain ⟨sf, sr, sc⟩ := s
    simp only at e1 e3 e4 e5 hsb
    subst e1
    have hJN : jnOf l ((T ++ [(fr + (j : Int), (⟨kf, sr, sc⟩ : SpanV))]).map (·.2)) = stepJ l (jnOf l (T.map (·.2))) ⟨kf, sr, sc⟩ := by
      rw [List.map_append]
      exact jn_next _ _ _
    have hpd : padS l ⟨kf, sr, sc⟩ = f.pad := by
      unfold padS
      simp only
      rw [Int.toNat_natCast, e2]
    rw [hJN]
    obtain ⟨O, hO⟩ : ∃ O, O = jnOf l (T.map (·.2)) := ⟨_, rfl⟩
    rw [← hO] at hE hlen HPB ⊢
    clear hO hJN hpre hs
    refine yieldAt_round hrec hE.hL rfl trivial ?_
    have HE := hid hE
    have hLW : w.heap.size + 8 < W.heap.size := (Array.getElem?_eq_some_iff.1 hE.hL).1
    clear hE hrec henv
    gi_wp2
    refine ⟨ob_alloc HE.out.hL, ?_⟩
    refine name_world (p := fun W => Code.wpIn _ _ _ _ _ _ W) (fun W3 hW3 => ?_)
    have hs3 : W3.heap.size = W.heap.size + 1 := by rw [hW3]; simp
    have hx3 : Blk W3 W.heap.size #[.int .i64 kf, .int .i64 sr, .int .i64 sc] 113 := by rw [hW3]; exact Blk.putObj (by omega) (Blk.new _ _ _)
    have hE3 : JEnv w a c l piece new fr n (.loop (rec .busy none)) v O W3 := by rw [hW3]; exact (HE.out.step ((Mod.refl _ _).alloc _)).put (loop_no _)
    have hm3 : Mod (fun k => k = w.heap.size + 8) W W3 := by rw [hW3]; exact Mod.putObj ((Mod.refl _ _).alloc _) _ _ (.inl rfl)
    clear hW3
    have HE3 := hid hE3; have HX3 := hid hx3; have HM3 := hid hm3; have HS3 := hid hs3
    have x0 := hx3.cellv 0 rfl; have x1 := hx3.cellv 1 rfl; have x2 := hx3.cellv 2 rfl
    have l4 := hE3.l4.cellv 0 rfl
    have hkl : kf < l.length := (List.getElem?_eq_some_iff.1 e2).1
    have HFA := hid (HF.out.new hE3.new')
    have hr1 := HFA.out.room; have hr2 := HFA.out.cap
    unfold maxLen at hr2
    obtain ⟨bb, oo, rfl, hbb, hcc⟩ := HFA.out.get (by omega)
    obtain ⟨pa, pc, g0, g1, g2, -, -⟩ := hcc kf hkl
    have hlf : l[kf] = f := (List.getElem?_eq_some_iff.1 e2).2
    rw [hlf] at g0 g1 g2
    clear hE3 hx3 hm3 hcc hbb hs3
    cases hpb : f.pad with
    | true =>
      rw [hpb] at hpd g2
      have HST := hid (show stepJ l O ⟨kf, sr, sc⟩ = O by unfold stepJ; rw [hpd, if_pos rfl])
      clear hpd hpb
      gi_wp2
      have hfin := HE3.out.put (lo' := .loop (rec .ready none)) (loop_no _)
      exact ⟨HE3.out.hL, rfl, ⟨v, by rw [HST.out]; exact hfin⟩, fun b hb hf => HE.out.keeps hfin (Mod.putObj (HM3.out.mono (fun k _ q => .inr (.inl q))) _ _ (.inl (.inr (.inl rfl)))) (.inl rfl) hb hf⟩
    | false =>
      rw [hpb] at hpd g2
      have HST := hid (show stepJ l O ⟨kf, sr, sc⟩ = addJ O ⟨kf, sr, sc⟩ by unfold stepJ; rw [hpd, if_neg (by simp)])
      clear hpd hpb
      have hc0 : (sc == 0) = false := by rw [beq_eq_false_iff_ne]; omega
      rcases List.eq_nil_or_concat O with hO | ⟨O', p, hO⟩
      · subst hO
        obtain ⟨av, cv, rfl, -, -⟩ := HE3.out.ow.spansB
        have c9 := HE3.out.ob.cellv 0 rfl
        have f9 := HE3.out.ob.frz; have b9 := HE3.out.ob.lt
        have HAD := hid (show addJ [] ⟨kf, sr, sc⟩ = [] ++ [⟨kf, sr, sc⟩] from rfl)
        gi_wp2_with fail
        refine wp_region_round (fun _ => True) (by kernel_rfl) (noDefer_spec (by kernel_rfl)) (by rintro ⟨a, w, q⟩; exact q) trivial (fun hHeld => ?_)
        clear hHeld
        have hHeld : True := trivial
        refine wpAnyH_take (i := 0) (v := ?_) (by simp only [List.getElem?_toArray, List.getElem?_cons_succ, List.getElem?_cons_zero]; rfl) (by kernel_rfl) (by kernel_rfl) (by kernel_rfl) (by intro _ _ _ h; exact h) (Or.inl ⟨by rfl, ?_⟩) (by assumption) ?_
        rotate_left
        · intro w hSw
          (try dsimp only at hSw)
          first | (go_simp; done) | (go_simp; with_reducible rfl) | with_reducible rfl
        simp only [Act.put, List.setIfInBounds_toArray, List.set_cons_zero, List.set_cons_succ]
        refine wpAnyH_take (i := 1) (v := ?_) (by simp only [List.getElem?_toArray, List.getElem?_cons_succ, List.getElem?_cons_zero]; rfl) (by kernel_rfl) (by kernel_rfl) (by kernel_rfl) (by intro _ _ _ h; exact h) (Or.inl ⟨by rfl, ?_⟩) (by assumption) ?_
        rotate_left
        · intro w hSw
          (try dsimp only at hSw)
          first | (go_simp; done) | (go_simp; with_reducible rfl) | with_reducible rfl
        simp only [Act.put, List.setIfInBounds_toArray, List.set_cons_zero, List.set_cons_succ]
        refine wpAnyH_take (i := 2) (v := ?_) (by simp only [List.getElem?_toArray, List.getElem?_cons_succ, List.getElem?_cons_zero]; rfl) (by kernel_rfl) (by kernel_rfl) (by kernel_rfl) (by intro _ _ _ h; exact h) (Or.inl ⟨by rfl, ?_⟩) (by assumption) ?_
        rotate_left
        · intro w hSw
          (try dsimp only at hSw)
          first | (go_simp; done) | (go_simp; with_reducible rfl) | with_reducible rfl
        simp only [Act.put, List.setIfInBounds_toArray, List.set_cons_zero, List.set_cons_succ]
        refine wpAnyH_take (i := 3) (v := undef) (by simp only [List.getElem?_toArray, List.getElem?_cons_succ, List.getElem?_cons_zero]; rfl) (by kernel_rfl) (by kernel_rfl) (by kernel_rfl) (by intro _ _ _ h; exact h) (Or.inr ⟨by kernel_rfl, rfl⟩) (by assumption) ?_
        simp only [Act.put, List.setIfInBounds_toArray, List.set_cons_zero, List.set_cons_succ]
        refine wpAnyH_take (i := 4) (v := undef) (by simp only [List.getElem?_toArray, List.getElem?_cons_succ, List.getElem?_cons_zero]; rfl) (by kernel_rfl) (by kernel_rfl) (by kernel_rfl) (by intro _ _ _ h; exact h) (Or.inr ⟨by kernel_rfl, rfl⟩) (by assumption) ?_
        simp only [Act.put, List.setIfInBounds_toArray, List.set_cons_zero, List.set_cons_succ]
        refine wpAnyH_take (i := 5) (v := undef) (by simp only [List.getElem?_toArray, List.getElem?_cons_succ, List.getElem?_cons_zero]; rfl) (by kernel_rfl) (by kernel_rfl) (by kernel_rfl) (by intro _ _ _ h; exact h) (Or.inr ⟨by kernel_rfl, rfl⟩) (by assumption) ?_
        simp only [Act.put, List.setIfInBounds_toArray, List.set_cons_zero, List.set_cons_succ]
        refine wpAnyH_take (i := 6) (v := undef) (by simp only [List.getElem?_toArray, List.getElem?_cons_succ, List.getElem?_cons_zero]; rfl) (by kernel_rfl) (by kernel_rfl) (by kernel_rfl) (by intro _ _ _ h; exact h) (Or.inr ⟨by kernel_rfl, rfl⟩) (by assumption) ?_
        simp only [Act.put, List.setIfInBounds_toArray, List.set_cons_zero, List.set_cons_succ]
        refine wpAnyH_take (i := 7) (v := undef) (by simp only [List.getElem?_toArray, List.getElem?_cons_succ, List.getElem?_cons_zero]; rfl) (by kernel_rfl) (by kernel_rfl) (by kernel_rfl) (by intro _ _ _ h; exact h) (Or.inr ⟨by kernel_rfl, rfl⟩) (by assumption) ?_
        simp only [Act.put, List.setIfInBounds_toArray, List.set_cons_zero, List.set_cons_succ]
        refine wpAnyH_take (i := 8) (v := undef) (by simp only [List.getElem?_toArray, List.getElem?_cons_succ, List.getElem?_cons_zero]; rfl) (by kernel_rfl) (by kernel_rfl) (by kernel_rfl) (by intro _ _ _ h; exact h) (Or.inr ⟨by kernel_rfl, rfl⟩) (by assumption) ?_
        simp only [Act.put, List.setIfInBounds_toArray, List.set_cons_zero, List.set_cons_succ]
        refine wpAnyH_take (i := 9) (v := undef) (by simp only [List.getElem?_toArray, List.getElem?_cons_succ, List.getElem?_cons_zero]; rfl) (by kernel_rfl) (by kernel_rfl) (by kernel_rfl) (by intro _ _ _ h; exact h) (Or.inr ⟨by kernel_rfl, rfl⟩) (by assumption) ?_
        simp only [Act.put, List.setIfInBounds_toArray, List.set_cons_zero, List.set_cons_succ]
        refine wpAnyH_take (i := 10) (v := undef) (by simp only [List.getElem?_toArray, List.getElem?_cons_succ, List.getElem?_cons_zero]; rfl) (by kernel_rfl) (by kernel_rfl) (by kernel_rfl) (by intro _ _ _ h; exact h) (Or.inr ⟨by kernel_rfl, rfl⟩) (by assumption) ?_
        simp only [Act.put, List.setIfInBounds_toArray, List.set_cons_zero, List.set_cons_succ]
        refine wpAnyH_take (i := 11) (v := undef) (by simp only [List.getElem?_toArray, List.getElem?_cons_succ, List.getElem?_cons_zero]; rfl) (by kernel_rfl) (by kernel_rfl) (by kernel_rfl) (by intro _ _ _ h; exact h) (Or.inr ⟨by kernel_rfl, rfl⟩) (by assumption) ?_
        simp only [Act.put, List.setIfInBounds_toArray, List.set_cons_zero, List.set_cons_succ]
        refine wpAnyH_take (i := 12) (v := ?_) (by simp only [List.getElem?_toArray, List.getElem?_cons_succ, List.getElem?_cons_zero]; rfl) (by kernel_rfl) (by kernel_rfl) (by kernel_rfl) (by intro _ _ _ h; exact h) (Or.inl ⟨by rfl, ?_⟩) (by assumption) ?_
        rotate_left
        · intro w hSw
          (try dsimp only at hSw)
          first | (go_simp; done) | (go_simp; with_reducible rfl) | with_reducible rfl
        simp only [Act.put, List.setIfInBounds_toArray, List.set_cons_zero, List.set_cons_succ]
        refine wpAnyH_take (i := 13) (v := ?_) (by simp only [List.getElem?_toArray, List.getElem?_cons_succ, List.getElem?_cons_zero]; rfl) (by kernel_rfl) (by kernel_rfl) (by kernel_rfl) (by intro _ _ _ h; exact h) (Or.inl ⟨by rfl, ?_⟩) (by assumption) ?_
        rotate_left
        · intro w hSw
          (try dsimp only at hSw)
          first | (go_simp; done) | (go_simp; with_reducible rfl) | with_reducible rfl
        simp only [Act.put, List.setIfInBounds_toArray, List.set_cons_zero, List.set_cons_succ]
        refine wpAnyH_take (i := 14) (v := undef) (by simp only [List.getElem?_toArray, List.getElem?_cons_succ, List.getElem?_cons_zero]; rfl) (by kernel_rfl) (by kernel_rfl) (by kernel_rfl) (by intro _ _ _ h; exact h) (Or.inr ⟨by kernel_rfl, rfl⟩) (by assumption) ?_
        simp only [Act.put, List.setIfInBounds_toArray, List.set_cons_zero, List.set_cons_succ]
        refine wpAnyH_take (i := 15) (v := undef) (by simp only [List.getElem?_toArray, List.getElem?_cons_succ, List.getElem?_cons_zero]; rfl) (by kernel_rfl) (by kernel_rfl) (by kernel_rfl) (by intro _ _ _ h; exact h) (Or.inr ⟨by kernel_rfl, rfl⟩) (by assumption) ?_
        simp only [Act.put, List.setIfInBounds_toArray, List.set_cons_zero, List.set_cons_succ]
        refine wpAnyH_take (i := 16) (v := undef) (by simp only [List.getElem?_toArray, List.getElem?_cons_succ, List.getElem?_cons_zero]; rfl) (by kernel_rfl) (by kernel_rfl) (by kernel_rfl) (by intro _ _ _ h; exact h) (Or.inr ⟨by kernel_rfl, rfl⟩) (by assumption) ?_
        simp only [Act.put, List.setIfInBounds_toArray, List.set_cons_zero, List.set_cons_succ]
        refine wpAnyH_take (i := 17) (v := undef) (by simp only [List.getElem?_toArray, List.getElem?_cons_succ, List.getElem?_cons_zero]; rfl) (by kernel_rfl) (by kernel_rfl) (by kernel_rfl) (by intro _ _ _ h; exact h) (Or.inr ⟨by kernel_rfl, rfl⟩) (by assumption) ?_
        simp only [Act.put, List.setIfInBounds_toArray, List.set_cons_zero, List.set_cons_succ]
        refine wpAnyH_take (i := 18) (v := undef) (by simp only [List.getElem?_toArray, List.getElem?_cons_succ, List.getElem?_cons_zero]; rfl) (by kernel_rfl) (by kernel_rfl) (by kernel_rfl) (by intro _ _ _ h; exact h) (Or.inr ⟨by kernel_rfl, rfl⟩) (by assumption) ?_
        simp only [Act.put, List.setIfInBounds_toArray, List.set_cons_zero, List.set_cons_succ]
        refine wpAnyH_take (i := 19) (v := undef) (by simp only [List.getElem?_toArray, List.getElem?_cons_succ, List.getElem?_cons_zero]; rfl) (by kernel_rfl) (by kernel_rfl) (by kernel_rfl) (by intro _ _ _ h; exact h) (Or.inr ⟨by kernel_rfl, rfl⟩) (by assumption) ?_
        simp only [Act.put, List.setIfInBounds_toArray, List.set_cons_zero, List.set_cons_succ]
        refine wpAnyH_take (i := 20) (v := undef) (by simp only [List.getElem?_toArray, List.getElem?_cons_succ, List.getElem?_cons_zero]; rfl) (by kernel_rfl) (by kernel_rfl) (by kernel_rfl) (by intro _ _ _ h; exact h) (Or.inr ⟨by kernel_rfl, rfl⟩) (by assumption) ?_
        simp only [Act.put, List.setIfInBounds_toArray, List.set_cons_zero, List.set_cons_succ]
        refine wpAnyH_take (i := 21) (v := undef) (by simp only [List.getElem?_toArray, List.getElem?_cons_succ, List.getElem?_cons_zero]; rfl) (by kernel_rfl) (by kernel_rfl) (by kernel_rfl) (by intro _ _ _ h; exact h) (Or.inr ⟨by kernel_rfl, rfl⟩) (by assumption) ?_
        simp only [Act.put, List.setIfInBounds_toArray, List.set_cons_zero, List.set_cons_succ]
        refine wpAnyH_take (i := 22) (v := undef) (by simp only [List.getElem?_toArray, List.getElem?_cons_succ, List.getElem?_cons_zero]; rfl) (by kernel_rfl) (by kernel_rfl) (by kernel_rfl) (by intro _ _ _ h; exact h) (Or.inr ⟨by kernel_rfl, rfl⟩) (by assumption) ?_
        simp only [Act.put, List.setIfInBounds_toArray, List.set_cons_zero, List.set_cons_succ]
        refine wpAnyH_take (i := 23) (v := undef) (by simp only [List.getElem?_toArray, List.getElem?_cons_succ, List.getElem?_cons_zero]; rfl) (by kernel_rfl) (by kernel_rfl) (by kernel_rfl) (by intro _ _ _ h; exact h) (Or.inr ⟨by kernel_rfl, rfl⟩) (by assumption) ?_
        simp only [Act.put, List.setIfInBounds_toArray, List.set_cons_zero, List.set_cons_succ]
        refine wpAnyH_take (i := 24) (v := undef) (by simp only [List.getElem?_toArray, List.getElem?_cons_succ, List.getElem?_cons_zero]; rfl) (by kernel_rfl) (by kernel_rfl) (by kernel_rfl) (by intro _ _ _ h; exact h) (Or.inr ⟨by kernel_rfl, rfl⟩) (by assumption) ?_
        simp only [Act.put, List.setIfInBounds_toArray, List.set_cons_zero, List.set_cons_succ]
        refine wpAnyH_take (i := 25) (v := undef) (by simp only [List.getElem?_toArray, List.getElem?_cons_succ, List.getElem?_cons_zero]; rfl) (by kernel_rfl) (by kernel_rfl) (by kernel_rfl) (by intro _ _ _ h; exact h) (Or.inr ⟨by kernel_rfl, rfl⟩) (by assumption) ?_
        simp only [Act.put, List.setIfInBounds_toArray, List.set_cons_zero, List.set_cons_succ]
        refine wpAnyH_take (i := 26) (v := undef) (by simp only [List.getElem?_toArray, List.getElem?_cons_succ, List.getElem?_cons_zero]; rfl) (by kernel_rfl) (by kernel_rfl) (by kernel_rfl) (by intro _ _ _ h; exact h) (Or.inr ⟨by kernel_rfl, rfl⟩) (by assumption) ?_
        simp only [Act.put, List.setIfInBounds_toArray, List.set_cons_zero, List.set_cons_succ]
        refine wpAnyH_take (i := 27) (v := undef) (by simp only [List.getElem?_toArray, List.getElem?_cons_succ, List.getElem?_cons_zero]; rfl) (by kernel_rfl) (by kernel_rfl) (by kernel_rfl) (by intro _ _ _ h; exact h) (Or.inr ⟨by kernel_rfl, rfl⟩) (by assumption) ?_
        simp only [Act.put, List.setIfInBounds_toArray, List.set_cons_zero, List.set_cons_succ]
        refine wpAnyH_take (i := 28) (v := undef) (by simp only [List.getElem?_toArray, List.getElem?_cons_succ, List.getElem?_cons_zero]; rfl) (by kernel_rfl) (by kernel_rfl) (by kernel_rfl) (by intro _ _ _ h; exact h) (Or.inr ⟨by kernel_rfl, rfl⟩) (by assumption) ?_
        simp only [Act.put, List.setIfInBounds_toArray, List.set_cons_zero, List.set_cons_succ]
        refine wpAnyH_take (i := 29) (v := undef) (by simp only [List.getElem?_toArray, List.getElem?_cons_succ, List.getElem?_cons_zero]; rfl) (by kernel_rfl) (by kernel_rfl) (by kernel_rfl) (by intro _ _ _ h; exact h) (Or.inr ⟨by kernel_rfl, rfl⟩) (by assumption) ?_
        simp only [Act.put, List.setIfInBounds_toArray, List.set_cons_zero, List.set_cons_succ]
        refine wpAnyH_take (i := 30) (v := ?_) (by simp only [List.getElem?_toArray, List.getElem?_cons_succ, List.getElem?_cons_zero]; rfl) (by kernel_rfl) (by kernel_rfl) (by kernel_rfl) (by intro _ _ _ h; exact h) (Or.inl ⟨by rfl, ?_⟩) (by assumption) ?_
        rotate_left
        · intro w hSw
          (try dsimp only at hSw)
          first | (go_simp; done) | (go_simp; with_reducible rfl) | with_reducible rfl
        simp only [Act.put, List.setIfInBounds_toArray, List.set_cons_zero, List.set_cons_succ]
        refine wpAnyH_done (by kernel_rfl) ?_ _
        gi_wp2_with (gi_at_builtin; refine wpListIn_append_own_at _ rfl _ _ 65 rfl (w.heap.size + 9) 113 i0 _ 3 24 Tryz.underlying65 hi hz0 hz1 hz2 rfl (by decide) (.slice av (([] : List SpanV)).length cv) (([] : List SpanV)).length (spanRow (([] : List SpanV))) rfl ?ow ⟨W3.heap.size, 0, none⟩ 1 1 (spanCells ⟨kf, sr, sc⟩) rfl rfl ?hn ?h1 ?h63 ?hby ?hba ?_)
        case ow =>
          have q : W3.ownsRow (w.heap.size + 9) 113 3 (.slice av (([] : List SpanV).length) cv) (([] : List SpanV).length) (spanRow (([] : List SpanV))) := by
            have := HE3.out.ow
            unfold OwnS at this
            first | exact this | (rw [hOl] at this; exact this)
          exact owns_mod q (((Mod.refl (fun _ => False) _).alloc _).drew) (fun _ _ q => q)
        case hn =>
          have := three_new W3 (.int .i64 kf) (.int .i64 sr) (.int .i64 sc) 113
          simpa [spanCells] using this
        case h1 => intro u hu; simp [spanCells] at hu; rcases hu with rfl | rfl | rfl <;> rfl
        case h63 => unfold maxLen; first | omega | (simp only [List.length_nil] at hlen ⊢; omega)
        case hby => first | omega | (simp only [List.length_nil] at hlen ⊢; omega)
        case hba => simp; have := HS3.out; omega
        intro v' w' hr2 hg2 hne2 hat
        have hO2 : OwnS w' (w.heap.size + 9) v' ((([] : List SpanV)) ++ [⟨kf, sr, sc⟩]) := by
          unfold OwnS
          rw [spanRow_app, List.length_append]
          first | exact hr2 | (rw [hOl]; exact hr2)
        obtain ⟨hE4, hM4⟩ := (HE3.out.step (((Mod.refl (fun _ => False) _).alloc (.cells #[.int .i64 kf, .int .i64 sr, .int .i64 sc] 113)).drew)).push hg2 hO2
        have HAT : Hid (v'.ownBlock = (Value.slice av (([] : List SpanV).length) cv).ownBlock ∨ ∃ g, v'.ownBlock = some g ∧ W.heap.size ≤ g) := hid (by
          rcases hat with q | q
          · exact .inl q
          · exact .inr ⟨_, q, by have := HS3.out; simp; omega⟩)
        have HE4 := hid hE4
        have HM4 : Hid (Mod (fun k => k = w.heap.size + 2 ∨ k = w.heap.size + 8 ∨ some k = (Value.slice av (([] : List SpanV).length) cv).ownBlock) W (w'.setCell ⟨w.heap.size + 2, 0, none⟩ v')) := hid
          ((((HM3.out.mono (fun k _ q => .inr (.inl q))).alloc (.cells #[.int .i64 kf, .int .i64 sr, .int .i64 sc] 113)).drew).trans' hM4 (fun k _ q => by rcases q with q | q; exact .inl q; exact .inr (.inr q)))
        have hb9 : w.heap.size + 2 < w'.heap.size := by have := hE4.ob.lt; simpa using this
        have hf9 : ∀ i, w'.frozen? ⟨w.heap.size + 2, i, none⟩ = false := fun i => by
          have hbl : Blk w' (w.heap.size + 2) #[.slice av (([] : List SpanV).length) cv] 65 := (New.blk (((Mod.refl (fun _ => False) _).alloc (.cells #[.int .i64 kf, .int .i64 sr, .int .i64 sc] 113)).drew) HE3.out.ob).of_heap (hg2.block _ (by have := HE3.out.ob.lt; simp; omega) (fun q => by have := (HE3.out.ow.blk q.symm).1; omega))
          exact hbl.frz i
        have hc9 : ∃ u, w'.cell? ⟨w.heap.size + 2, 0, none⟩ = some u := by
          have hbl : Blk w' (w.heap.size + 2) #[.slice av (([] : List SpanV).length) cv] 65 := (New.blk (((Mod.refl (fun _ => False) _).alloc (.cells #[.int .i64 kf, .int .i64 sr, .int .i64 sc] 113)).drew) HE3.out.ob).of_heap (hg2.block _ (by have := HE3.out.ob.lt; simp; omega) (fun q => by have := (HE3.out.ow.blk q.symm).1; omega))
          exact ⟨_, hbl.cellv 0 rfl⟩
        obtain ⟨u9, c9'⟩ := hc9
        obtain ⟨av2, cv2, hv2, -, -⟩ := hO2.spansB
        have hKl : ((([] : List SpanV)) ++ [(⟨kf, sr, sc⟩ : SpanV)]).length = (([] : List SpanV).length) + 1 := by simp
        rw [hKl] at hv2
        subst hv2
        clear hr2 hg2 hne2 hat hO2 hE4 hM4 c9 f9 b9
        gi_wp2
        have hfin := HE4.out.put (lo' := .loop (rec .ready none)) (loop_no _)
        exact ⟨HE4.out.hL, rfl, ⟨_, by rw [HST.out, HAD.out]; exact hfin⟩, fun b hb hf => HE.out.keeps hfin (Mod.putObj HM4.out _ _ (.inl (.inr (.inl rfl)))) HAT.out hb hf⟩
      · rw [List.concat_eq_append] at hO
        subst hO
        obtain ⟨g, cap, rfl, hgb, hgl, hcp1, hcp2, y0, y1, y2, y3⟩ := HE3.out.ow.lastCells
        have c9 := HE3.out.ob.cellv 0 rfl
        have f9 := HE3.out.ob.frz; have b9 := HE3.out.ob.lt
        have hOl : (O' ++ [p]).length = O'.length + 1 := by simp
        have hlast : (O' ++ [p]).getLast? = some p := by simp
        unfold maxLen at hcp2
        have hpi : ((O'.length + 1 : Nat) : Int) - 1 = (O'.length : Int) := by omega
        have hn1 : (0 : Int) < ((O'.length + 1 : Nat) : Int) := by omega
        rw [hOl] at hlen
        have hwr : IntKind.i64.wrap (O'.length : Int) = (O'.length : Int) := by rw [IntKind.wrap_i64]; omega
        have hix : (O'.length : Int) < (O'.length : Int) + 1 := by omega
        have hix2 : O'.length < O'.length + 1 := by omega
        have hix0 : ¬ (O'.length : Int) < 0 := by omega
        by_cases hpf : p.file = (kf : Int)
        · have hpfI : (p.file == (kf : Int)) = true := by rw [beq_iff_eq]; exact hpf
          obtain ⟨hp0, hp1, hp2⟩ := HPB.out p (by simp)
          have hw2 : IntKind.i64.wrap (p.frm + p.cnt) = p.frm + p.cnt := by rw [IntKind.wrap_i64]; omega
          have hw3 : IntKind.i64.wrap (p.cnt + sc) = p.cnt + sc := by rw [IntKind.wrap_i64]; omega
          by_cases hpt : p.frm + p.cnt = sr
          · have hptI : (p.frm + p.cnt == sr) = true := by rw [beq_iff_eq]; exact hpt
            have HAD := hid (show addJ (O' ++ [p]) ⟨kf, sr, sc⟩ = O' ++ [⟨p.file, p.frm, p.cnt + sc⟩] by
              unfold addJ
              rw [hlast]
              simp only
              rw [if_pos ⟨hpf, hpt⟩, List.dropLast_concat])
            clear hpf hpt
            gi_wp2_with fail
            refine wp_region_round (fun w' => w'.cell? ⟨w.heap.size + 2, 0, none⟩ = some (.slice (some ⟨g, 0, none⟩) (O'.length + 1) cap) ∧ w'.cell? ⟨g, O'.length * 3, none⟩ = some (.int .i64 p.file) ∧ w'.cell? ⟨g, O'.length * 3 + 1, none⟩ = some (.int .i64 p.frm) ∧ w'.cell? ⟨g, O'.length * 3 + 2, none⟩ = some (.int .i64 p.cnt) ∧ w'.cell? ⟨W.heap.size, 0, none⟩ = some (.int .i64 kf) ∧ w'.cell? ⟨W.heap.size, 1, none⟩ = some (.int .i64 sr) ∧ w'.cell? ⟨W.heap.size, 2, none⟩ = some (.int .i64 sc)) (by kernel_rfl) (noDefer_spec (by kernel_rfl)) (by rintro ⟨a, w, q⟩; exact q) ⟨c9, y0, y1, y2, x0, x1, x2⟩ (fun hHeld => ?_)
            refine wpAnyH_take (i := 0) (v := ?_) (by simp only [List.getElem?_toArray, List.getElem?_cons_succ, List.getElem?_cons_zero]; rfl) (by kernel_rfl) (by kernel_rfl) (by kernel_rfl) (by intro _ _ _ h; exact h) (Or.inl ⟨by rfl, ?_⟩) (by assumption) ?_
            rotate_left
            · intro w hSw
              (try dsimp only at hSw)
              first | (go_simp; done) | (go_simp; with_reducible rfl) | with_reducible rfl
            simp only [Act.put, List.setIfInBounds_toArray, List.set_cons_zero, List.set_cons_succ]
            refine wpAnyH_take (i := 1) (v := ?_) (by simp only [List.getElem?_toArray, List.getElem?_cons_succ, List.getElem?_cons_zero]; rfl) (by kernel_rfl) (by kernel_rfl) (by kernel_rfl) (by intro _ _ _ h; exact h) (Or.inl ⟨by rfl, ?_⟩) (by assumption) ?_
            rotate_left
            · intro w hSw
              (try dsimp only at hSw)
              first | (go_simp; done) | (go_simp; with_reducible rfl) | with_reducible rfl
            simp only [Act.put, List.setIfInBounds_toArray, List.set_cons_zero, List.set_cons_succ]
            refine wpAnyH_take (i := 2) (v := ?_) (by simp only [List.getElem?_toArray, List.getElem?_cons_succ, List.getElem?_cons_zero]; rfl) (by kernel_rfl) (by kernel_rfl) (by kernel_rfl) (by intro _ _ _ h; exact h) (Or.inl ⟨by rfl, ?_⟩) (by assumption) ?_
            rotate_left
            · intro w hSw
              (try dsimp only at hSw)
              first | (go_simp; done) | (go_simp; with_reducible rfl) | with_reducible rfl
            simp only [Act.put, List.setIfInBounds_toArray, List.set_cons_zero, List.set_cons_succ]
            refine wpAnyH_take (i := 3) (v := ?_) (by simp only [List.getElem?_toArray, List.getElem?_cons_succ, List.getElem?_cons_zero]; rfl) (by kernel_rfl) (by kernel_rfl) (by kernel_rfl) (by intro _ _ _ h; exact h) (Or.inl ⟨by rfl, ?_⟩) (by assumption) ?_
            rotate_left
            · intro w hSw
              (try dsimp only at hSw)
              first | (go_simp; done) | (go_simp; with_reducible rfl) | with_reducible rfl
            simp only [Act.put, List.setIfInBounds_toArray, List.set_cons_zero, List.set_cons_succ]
            refine wpAnyH_take (i := 4) (v := ?_) (by simp only [List.getElem?_toArray, List.getElem?_cons_succ, List.getElem?_cons_zero]; rfl) (by kernel_rfl) (by kernel_rfl) (by kernel_rfl) (by intro _ _ _ h; exact h) (Or.inl ⟨by rfl, ?_⟩) (by assumption) ?_
            rotate_left
            · intro w hSw
              (try dsimp only at hSw)
              first | (go_simp; done) | (go_simp; with_reducible rfl) | with_reducible rfl
            simp only [Act.put, List.setIfInBounds_toArray, List.set_cons_zero, List.set_cons_succ]
            refine wpAnyH_take (i := 5) (v := ?_) (by simp only [List.getElem?_toArray, List.getElem?_cons_succ, List.getElem?_cons_zero]; rfl) (by kernel_rfl) (by kernel_rfl) (by kernel_rfl) (by intro _ _ _ h; exact h) (Or.inl ⟨by rfl, ?_⟩) (by assumption) ?_
            rotate_left
            · intro w hSw
              (try dsimp only at hSw)
              first | (go_simp; done) | (go_simp; with_reducible rfl) | with_reducible rfl
            simp only [Act.put, List.setIfInBounds_toArray, List.set_cons_zero, List.set_cons_succ]
            refine wpAnyH_take (i := 6) (v := ?_) (by simp only [List.getElem?_toArray, List.getElem?_cons_succ, List.getElem?_cons_zero]; rfl) (by kernel_rfl) (by kernel_rfl) (by kernel_rfl) (by intro _ _ _ h; exact h) (Or.inl ⟨by rfl, ?_⟩) (by assumption) ?_
            rotate_left
            · intro w hSw
              (try dsimp only at hSw)
              first | (go_simp; done) | (go_simp; with_reducible rfl) | with_reducible rfl
            simp only [Act.put, List.setIfInBounds_toArray, List.set_cons_zero, List.set_cons_succ]
            refine wpAnyH_take (i := 7) (v := ?_) (by simp only [List.getElem?_toArray, List.getElem?_cons_succ, List.getElem?_cons_zero]; rfl) (by kernel_rfl) (by kernel_rfl) (by kernel_rfl) (by intro _ _ _ h; exact h) (Or.inl ⟨by rfl, ?_⟩) (by assumption) ?_
            rotate_left
            · intro w hSw
              (try dsimp only at hSw)
              first | (go_simp; done) | (go_simp; with_reducible rfl) | with_reducible rfl
            simp only [Act.put, List.setIfInBounds_toArray, List.set_cons_zero, List.set_cons_succ]
            refine wpAnyH_take (i := 8) (v := ?_) (by simp only [List.getElem?_toArray, List.getElem?_cons_succ, List.getElem?_cons_zero]; rfl) (by kernel_rfl) (by kernel_rfl) (by kernel_rfl) (by intro _ _ _ h; exact h) (Or.inl ⟨by rfl, ?_⟩) (by assumption) ?_
            rotate_left
            · intro w hSw
              (try dsimp only at hSw)
              first | (go_simp; done) | (go_simp; with_reducible rfl) | with_reducible rfl
            simp only [Act.put, List.setIfInBounds_toArray, List.set_cons_zero, List.set_cons_succ]
            refine wpAnyH_take (i := 9) (v := ?_) (by simp only [List.getElem?_toArray, List.getElem?_cons_succ, List.getElem?_cons_zero]; rfl) (by kernel_rfl) (by kernel_rfl) (by kernel_rfl) (by intro _ _ _ h; exact h) (Or.inl ⟨by rfl, ?_⟩) (by assumption) ?_
            rotate_left
            · intro w hSw
              (try dsimp only at hSw)
              first | (go_simp; done) | (go_simp; with_reducible rfl) | with_reducible rfl
            simp only [Act.put, List.setIfInBounds_toArray, List.set_cons_zero, List.set_cons_succ]
            refine wpAnyH_take (i := 10) (v := ?_) (by simp only [List.getElem?_toArray, List.getElem?_cons_succ, List.getElem?_cons_zero]; rfl) (by kernel_rfl) (by kernel_rfl) (by kernel_rfl) (by intro _ _ _ h; exact h) (Or.inl ⟨by rfl, ?_⟩) (by assumption) ?_
            rotate_left
            · intro w hSw
              (try dsimp only at hSw)
              first | (go_simp; done) | (go_simp; with_reducible rfl) | with_reducible rfl
            simp only [Act.put, List.setIfInBounds_toArray, List.set_cons_zero, List.set_cons_succ]
            refine wpAnyH_take (i := 11) (v := ?_) (by simp only [List.getElem?_toArray, List.getElem?_cons_succ, List.getElem?_cons_zero]; rfl) (by kernel_rfl) (by kernel_rfl) (by kernel_rfl) (by intro _ _ _ h; exact h) (Or.inl ⟨by rfl, ?_⟩) (by assumption) ?_
            rotate_left
            · intro w hSw
              (try dsimp only at hSw)
              first | (go_simp; done) | (go_simp; with_reducible rfl) | with_reducible rfl
            simp only [Act.put, List.setIfInBounds_toArray, List.set_cons_zero, List.set_cons_succ]
            refine wpAnyH_take (i := 12) (v := ?_) (by simp only [List.getElem?_toArray, List.getElem?_cons_succ, List.getElem?_cons_zero]; rfl) (by kernel_rfl) (by kernel_rfl) (by kernel_rfl) (by intro _ _ _ h; exact h) (Or.inl ⟨by rfl, ?_⟩) (by assumption) ?_
            rotate_left
            · intro w hSw
              (try dsimp only at hSw)
              first | (go_simp; done) | (go_simp; with_reducible rfl) | with_reducible rfl
            simp only [Act.put, List.setIfInBounds_toArray, List.set_cons_zero, List.set_cons_succ]
            refine wpAnyH_take (i := 13) (v := ?_) (by simp only [List.getElem?_toArray, List.getElem?_cons_succ, List.getElem?_cons_zero]; rfl) (by kernel_rfl) (by kernel_rfl) (by kernel_rfl) (by intro _ _ _ h; exact h) (Or.inl ⟨by rfl, ?_⟩) (by assumption) ?_
            rotate_left
            · intro w hSw
              (try dsimp only at hSw)
              first | (go_simp; done) | (go_simp; with_reducible rfl) | with_reducible rfl
            simp only [Act.put, List.setIfInBounds_toArray, List.set_cons_zero, List.set_cons_succ]
            refine wpAnyH_take (i := 14) (v := ?_) (by simp only [List.getElem?_toArray, List.getElem?_cons_succ, List.getElem?_cons_zero]; rfl) (by kernel_rfl) (by kernel_rfl) (by kernel_rfl) (by intro _ _ _ h; exact h) (Or.inl ⟨by rfl, ?_⟩) (by assumption) ?_
            rotate_left
            · intro w hSw
              (try dsimp only at hSw)
              first | (go_simp; done) | (go_simp; with_reducible rfl) | with_reducible rfl
            simp only [Act.put, List.setIfInBounds_toArray, List.set_cons_zero, List.set_cons_succ]
            refine wpAnyH_take (i := 15) (v := ?_) (by simp only [List.getElem?_toArray, List.getElem?_cons_succ, List.getElem?_cons_zero]; rfl) (by kernel_rfl) (by kernel_rfl) (by kernel_rfl) (by intro _ _ _ h; exact h) (Or.inl ⟨by rfl, ?_⟩) (by assumption) ?_
            rotate_left
            · intro w hSw
              (try dsimp only at hSw)
              first | (go_simp; done) | (go_simp; with_reducible rfl) | with_reducible rfl
            simp only [Act.put, List.setIfInBounds_toArray, List.set_cons_zero, List.set_cons_succ]
            refine wpAnyH_take (i := 16) (v := ?_) (by simp only [List.getElem?_toArray, List.getElem?_cons_succ, List.getElem?_cons_zero]; rfl) (by kernel_rfl) (by kernel_rfl) (by kernel_rfl) (by intro _ _ _ h; exact h) (Or.inl ⟨by rfl, ?_⟩) (by assumption) ?_
            rotate_left
            · intro w hSw
              (try dsimp only at hSw)
              first | (go_simp; done) | (go_simp; with_reducible rfl) | with_reducible rfl
            simp only [Act.put, List.setIfInBounds_toArray, List.set_cons_zero, List.set_cons_succ]
            refine wpAnyH_take (i := 17) (v := ?_) (by simp only [List.getElem?_toArray, List.getElem?_cons_succ, List.getElem?_cons_zero]; rfl) (by kernel_rfl) (by kernel_rfl) (by kernel_rfl) (by intro _ _ _ h; exact h) (Or.inl ⟨by rfl, ?_⟩) (by assumption) ?_
            rotate_left
            · intro w hSw
              (try dsimp only at hSw)
              first | (go_simp; done) | (go_simp; with_reducible rfl) | with_reducible rfl
            simp only [Act.put, List.setIfInBounds_toArray, List.set_cons_zero, List.set_cons_succ]
            refine wpAnyH_take (i := 18) (v := ?_) (by simp only [List.getElem?_toArray, List.getElem?_cons_succ, List.getElem?_cons_zero]; rfl) (by kernel_rfl) (by kernel_rfl) (by kernel_rfl) (by intro _ _ _ h; exact h) (Or.inl ⟨by rfl, ?_⟩) (by assumption) ?_
            rotate_left
            · intro w hSw
              (try dsimp only at hSw)
              first | (go_simp; done) | (go_simp; with_reducible rfl) | with_reducible rfl
            simp only [Act.put, List.setIfInBounds_toArray, List.set_cons_zero, List.set_cons_succ]
            refine wpAnyH_take (i := 19) (v := ?_) (by simp only [List.getElem?_toArray, List.getElem?_cons_succ, List.getElem?_cons_zero]; rfl) (by kernel_rfl) (by kernel_rfl) (by kernel_rfl) (by intro _ _ _ h; exact h) (Or.inl ⟨by rfl, ?_⟩) (by assumption) ?_
            rotate_left
            · intro w hSw
              (try dsimp only at hSw)
              first | (go_simp; done) | (go_simp; with_reducible rfl) | with_reducible rfl
            simp only [Act.put, List.setIfInBounds_toArray, List.set_cons_zero, List.set_cons_succ]
            refine wpAnyH_take (i := 20) (v := ?_) (by simp only [List.getElem?_toArray, List.getElem?_cons_succ, List.getElem?_cons_zero]; rfl) (by kernel_rfl) (by kernel_rfl) (by kernel_rfl) (by intro _ _ _ h; exact h) (Or.inl ⟨by rfl, ?_⟩) (by assumption) ?_
            rotate_left
            · intro w hSw
              (try dsimp only at hSw)
              first | (go_simp; done) | (go_simp; with_reducible rfl) | with_reducible rfl
            simp only [Act.put, List.setIfInBounds_toArray, List.set_cons_zero, List.set_cons_succ]
            refine wpAnyH_take (i := 21) (v := ?_) (by simp only [List.getElem?_toArray, List.getElem?_cons_succ, List.getElem?_cons_zero]; rfl) (by kernel_rfl) (by kernel_rfl) (by kernel_rfl) (by intro _ _ _ h; exact h) (Or.inl ⟨by rfl, ?_⟩) (by assumption) ?_
            rotate_left
            · intro w hSw
              (try dsimp only at hSw)
              first | (go_simp; done) | (go_simp; with_reducible rfl) | with_reducible rfl
            simp only [Act.put, List.setIfInBounds_toArray, List.set_cons_zero, List.set_cons_succ]
            refine wpAnyH_take (i := 22) (v := ?_) (by simp only [List.getElem?_toArray, List.getElem?_cons_succ, List.getElem?_cons_zero]; rfl) (by kernel_rfl) (by kernel_rfl) (by kernel_rfl) (by intro _ _ _ h; exact h) (Or.inl ⟨by rfl, ?_⟩) (by assumption) ?_
            rotate_left
            · intro w hSw
              (try dsimp only at hSw)
              first | (go_simp; done) | (go_simp; with_reducible rfl) | with_reducible rfl
            simp only [Act.put, List.setIfInBounds_toArray, List.set_cons_zero, List.set_cons_succ]
            refine wpAnyH_take (i := 23) (v := ?_) (by simp only [List.getElem?_toArray, List.getElem?_cons_succ, List.getElem?_cons_zero]; rfl) (by kernel_rfl) (by kernel_rfl) (by kernel_rfl) (by intro _ _ _ h; exact h) (Or.inl ⟨by rfl, ?_⟩) (by assumption) ?_
            rotate_left
            · intro w hSw
              (try dsimp only at hSw)
              first | (go_simp; done) | (go_simp; with_reducible rfl) | with_reducible rfl
            simp only [Act.put, List.setIfInBounds_toArray, List.set_cons_zero, List.set_cons_succ]
            refine wpAnyH_take (i := 24) (v := ?_) (by simp only [List.getElem?_toArray, List.getElem?_cons_succ, List.getElem?_cons_zero]; rfl) (by kernel_rfl) (by kernel_rfl) (by kernel_rfl) (by intro _ _ _ h; exact h) (Or.inl ⟨by rfl, ?_⟩) (by assumption) ?_
            rotate_left
            · intro w hSw
              (try dsimp only at hSw)
              first | (go_simp; done) | (go_simp; with_reducible rfl) | with_reducible rfl
            simp only [Act.put, List.setIfInBounds_toArray, List.set_cons_zero, List.set_cons_succ]
            refine wpAnyH_take (i := 25) (v := ?_) (by simp only [List.getElem?_toArray, List.getElem?_cons_succ, List.getElem?_cons_zero]; rfl) (by kernel_rfl) (by kernel_rfl) (by kernel_rfl) (by intro _ _ _ h; exact h) (Or.inl ⟨by rfl, ?_⟩) (by assumption) ?_
            rotate_left
            · intro w hSw
              (try dsimp only at hSw)
              first | (go_simp; done) | (go_simp; with_reducible rfl) | with_reducible rfl
            simp only [Act.put, List.setIfInBounds_toArray, List.set_cons_zero, List.set_cons_succ]
            refine wpAnyH_take (i := 26) (v := ?_) (by simp only [List.getElem?_toArray, List.getElem?_cons_succ, List.getElem?_cons_zero]; rfl) (by kernel_rfl) (by kernel_rfl) (by kernel_rfl) (by intro _ _ _ h; exact h) (Or.inl ⟨by rfl, ?_⟩) (by assumption) ?_
            rotate_left
            · intro w hSw
              (try dsimp only at hSw)
              first | (go_simp; done) | (go_simp; with_reducible rfl) | with_reducible rfl
            simp only [Act.put, List.setIfInBounds_toArray, List.set_cons_zero, List.set_cons_succ]
            refine wpAnyH_take (i := 27) (v := ?_) (by simp only [List.getElem?_toArray, List.getElem?_cons_succ, List.getElem?_cons_zero]; rfl) (by kernel_rfl) (by kernel_rfl) (by kernel_rfl) (by intro _ _ _ h; exact h) (Or.inl ⟨by rfl, ?_⟩) (by assumption) ?_
            rotate_left
            · intro w hSw
              (try dsimp only at hSw)
              first | (go_simp; done) | (go_simp; with_reducible rfl) | with_reducible rfl
            simp only [Act.put, List.setIfInBounds_toArray, List.set_cons_zero, List.set_cons_succ]
            refine wpAnyH_take (i := 28) (v := ?_) (by simp only [List.getElem?_toArray, List.getElem?_cons_succ, List.getElem?_cons_zero]; rfl) (by kernel_rfl) (by kernel_rfl) (by kernel_rfl) (by intro _ _ _ h; exact h) (Or.inl ⟨by rfl, ?_⟩) (by assumption) ?_
            rotate_left
            · intro w hSw
              (try dsimp only at hSw)
              first | (go_simp; done) | (go_simp; with_reducible rfl) | with_reducible rfl
            simp only [Act.put, List.setIfInBounds_toArray, List.set_cons_zero, List.set_cons_succ]
            refine wpAnyH_take (i := 29) (v := ?_) (by simp only [List.getElem?_toArray, List.getElem?_cons_succ, List.getElem?_cons_zero]; rfl) (by kernel_rfl) (by kernel_rfl) (by kernel_rfl) (by intro _ _ _ h; exact h) (Or.inl ⟨by rfl, ?_⟩) (by assumption) ?_
            rotate_left
            · intro w hSw
              (try dsimp only at hSw)
              first | (go_simp; done) | (go_simp; with_reducible rfl) | with_reducible rfl
            simp only [Act.put, List.setIfInBounds_toArray, List.set_cons_zero, List.set_cons_succ]
            refine wpAnyH_take (i := 30) (v := ?_) (by simp only [List.getElem?_toArray, List.getElem?_cons_succ, List.getElem?_cons_zero]; rfl) (by kernel_rfl) (by kernel_rfl) (by kernel_rfl) (by intro _ _ _ h; exact h) (Or.inl ⟨by rfl, ?_⟩) (by assumption) ?_
            rotate_left
            · intro w hSw
              (try dsimp only at hSw)
              first | (go_simp; done) | (go_simp; with_reducible rfl) | with_reducible rfl
            simp only [Act.put, List.setIfInBounds_toArray, List.set_cons_zero, List.set_cons_succ]
            refine wpAnyH_done (by kernel_rfl) ?_ _
            gi_wp2_with fail
            refine wp_region_round (fun w' => w'.cell? ⟨w.heap.size + 2, 0, none⟩ = some (.slice (some ⟨g, 0, none⟩) (O'.length + 1) cap) ∧ w'.cell? ⟨W.heap.size, 2, none⟩ = some (.int .i64 sc)) (by kernel_rfl) (noDefer_spec (by kernel_rfl)) (by rintro ⟨a, w, q⟩; exact q) ⟨c9, x2⟩ (fun hHeld => ?_)
            refine wpAnyH_take (i := 0) (v := ?_) (by simp only [List.getElem?_toArray, List.getElem?_cons_succ, List.getElem?_cons_zero]; rfl) (by kernel_rfl) (by kernel_rfl) (by kernel_rfl) (by intro _ _ _ h; exact h) (Or.inl ⟨by rfl, ?_⟩) (by assumption) ?_
            rotate_left
            · intro w hSw
              (try dsimp only at hSw)
              first | (go_simp; done) | (go_simp; with_reducible rfl) | with_reducible rfl
            simp only [Act.put, List.setIfInBounds_toArray, List.set_cons_zero, List.set_cons_succ]
            refine wpAnyH_take (i := 1) (v := ?_) (by simp only [List.getElem?_toArray, List.getElem?_cons_succ, List.getElem?_cons_zero]; rfl) (by kernel_rfl) (by kernel_rfl) (by kernel_rfl) (by intro _ _ _ h; exact h) (Or.inl ⟨by rfl, ?_⟩) (by assumption) ?_
            rotate_left
            · intro w hSw
              (try dsimp only at hSw)
              first | (go_simp; done) | (go_simp; with_reducible rfl) | with_reducible rfl
            simp only [Act.put, List.setIfInBounds_toArray, List.set_cons_zero, List.set_cons_succ]
            refine wpAnyH_take (i := 2) (v := ?_) (by simp only [List.getElem?_toArray, List.getElem?_cons_succ, List.getElem?_cons_zero]; rfl) (by kernel_rfl) (by kernel_rfl) (by kernel_rfl) (by intro _ _ _ h; exact h) (Or.inl ⟨by rfl, ?_⟩) (by assumption) ?_
            rotate_left
            · intro w hSw
              (try dsimp only at hSw)
              first | (go_simp; done) | (go_simp; with_reducible rfl) | with_reducible rfl
            simp only [Act.put, List.setIfInBounds_toArray, List.set_cons_zero, List.set_cons_succ]
            refine wpAnyH_take (i := 3) (v := ?_) (by simp only [List.getElem?_toArray, List.getElem?_cons_succ, List.getElem?_cons_zero]; rfl) (by kernel_rfl) (by kernel_rfl) (by kernel_rfl) (by intro _ _ _ h; exact h) (Or.inl ⟨by rfl, ?_⟩) (by assumption) ?_
            rotate_left
            · intro w hSw
              (try dsimp only at hSw)
              first | (go_simp; done) | (go_simp; with_reducible rfl) | with_reducible rfl
            simp only [Act.put, List.setIfInBounds_toArray, List.set_cons_zero, List.set_cons_succ]
            refine wpAnyH_take (i := 4) (v := ?_) (by simp only [List.getElem?_toArray, List.getElem?_cons_succ, List.getElem?_cons_zero]; rfl) (by kernel_rfl) (by kernel_rfl) (by kernel_rfl) (by intro _ _ _ h; exact h) (Or.inl ⟨by rfl, ?_⟩) (by assumption) ?_
            rotate_left
            · intro w hSw
              (try dsimp only at hSw)
              first | (go_simp; done) | (go_simp; with_reducible rfl) | with_reducible rfl
            simp only [Act.put, List.setIfInBounds_toArray, List.set_cons_zero, List.set_cons_succ]
            refine wpAnyH_take (i := 6) (v := ?_) (by simp only [List.getElem?_toArray, List.getElem?_cons_succ, List.getElem?_cons_zero]; rfl) (by kernel_rfl) (by kernel_rfl) (by kernel_rfl) (by intro _ _ _ h; exact h) (Or.inl ⟨by rfl, ?_⟩) (by assumption) ?_
            rotate_left
            · intro w hSw
              (try dsimp only at hSw)
              first | (go_simp; done) | (go_simp; with_reducible rfl) | with_reducible rfl
            simp only [Act.put, List.setIfInBounds_toArray, List.set_cons_zero, List.set_cons_succ]
            refine wpAnyH_take (i := 7) (v := ?_) (by simp only [List.getElem?_toArray, List.getElem?_cons_succ, List.getElem?_cons_zero]; rfl) (by kernel_rfl) (by kernel_rfl) (by kernel_rfl) (by intro _ _ _ h; exact h) (Or.inl ⟨by rfl, ?_⟩) (by assumption) ?_
            rotate_left
            · intro w hSw
              (try dsimp only at hSw)
              first | (go_simp; done) | (go_simp; with_reducible rfl) | with_reducible rfl
            simp only [Act.put, List.setIfInBounds_toArray, List.set_cons_zero, List.set_cons_succ]
            refine wpAnyH_ready (rs := [5]) (by kernel_rfl) (by simp) ?_
            refine AllReadyH.cons (by simp only [List.getElem?_toArray, List.getElem?_cons_succ, List.getElem?_cons_zero]; rfl) (fun K hK => ?_) AllReadyH.nil
            go_simp
            refine hK.out _ _ ⟨c9, x2⟩ (fun hHeld5 => ?_)
            clear hK K
            try simp only [Act.put, List.setIfInBounds_toArray, List.set_cons_zero, List.set_cons_succ]
            refine wpAnyH_take (i := 8) (v := ?_) (by simp only [List.getElem?_toArray, List.getElem?_cons_succ, List.getElem?_cons_zero]; rfl) (by kernel_rfl) (by kernel_rfl) (by kernel_rfl) (by intro _ _ _ h; exact h) (Or.inl ⟨by rfl, ?_⟩) (by assumption) ?_
            rotate_left
            · intro w hSw
              (try dsimp only at hSw)
              first | (go_simp; done) | (go_simp; with_reducible rfl) | with_reducible rfl
            simp only [Act.put, List.setIfInBounds_toArray, List.set_cons_zero, List.set_cons_succ]
            refine wpAnyH_take (i := 9) (v := ?_) (by simp only [List.getElem?_toArray, List.getElem?_cons_succ, List.getElem?_cons_zero]; rfl) (by kernel_rfl) (by kernel_rfl) (by kernel_rfl) (by intro _ _ _ h; exact h) (Or.inl ⟨by rfl, ?_⟩) (by assumption) ?_
            rotate_left
            · intro w hSw
              (try dsimp only at hSw)
              first | (go_simp; done) | (go_simp; with_reducible rfl) | with_reducible rfl
            simp only [Act.put, List.setIfInBounds_toArray, List.set_cons_zero, List.set_cons_succ]
            refine wpAnyH_take (i := 10) (v := ?_) (by simp only [List.getElem?_toArray, List.getElem?_cons_succ, List.getElem?_cons_zero]; rfl) (by kernel_rfl) (by kernel_rfl) (by kernel_rfl) (by intro _ _ _ h; exact h) (Or.inl ⟨by rfl, ?_⟩) (by assumption) ?_
            rotate_left
            · intro w hSw
              (try dsimp only at hSw)
              first | (go_simp; done) | (go_simp; with_reducible rfl) | with_reducible rfl
            simp only [Act.put, List.setIfInBounds_toArray, List.set_cons_zero, List.set_cons_succ]
            have HJ := hid (HE3.out.over (p.cnt + sc))
            have HM4 : Hid (Mod (fun k => k = w.heap.size + 2 ∨ k = w.heap.size + 8 ∨ some k = (Value.slice (some ⟨g, 0, none⟩) (O'.length + 1) cap).ownBlock) W (W3.setCell ⟨g, O'.length * 3 + 2, none⟩ (.int .i64 (p.cnt + sc)))) := hid
              ((HM3.out.mono (fun k _ q => .inr (.inl q))).trans' HJ.out.2 (fun k _ q => .inr (.inr q)))
            have c9' : (W3.setCell ⟨g, O'.length * 3 + 2, none⟩ (.int .i64 (p.cnt + sc))).cell? ⟨w.heap.size + 2, 0, none⟩ = some (.slice (some ⟨g, 0, none⟩) (O'.length + 1) cap) := HJ.out.1.ob.cellv 0 rfl
            have x2' : (W3.setCell ⟨g, O'.length * 3 + 2, none⟩ (.int .i64 (p.cnt + sc))).cell? ⟨W.heap.size, 2, none⟩ = some (.int .i64 sc) := by
              have hbx := HX3.out
              have hgW : g < W.heap.size := (HE.out.ow.blk (g := g) rfl).2
              have hne : W.heap.size ≠ g := by omega
              exact (hbx.other (p := ⟨g, O'.length * 3 + 2, none⟩) hne).cellv 2 rfl
            refine wpAnyH_ready (rs := [11]) (by kernel_rfl) (by simp) ?_
            refine AllReadyH.cons (by simp only [List.getElem?_toArray, List.getElem?_cons_succ, List.getElem?_cons_zero]; rfl) (fun K hK => ?_) AllReadyH.nil
            go_simp
            refine hK.out _ _ ⟨c9', x2'⟩ (fun hHeld11 => ?_)
            clear hK K
            try simp only [Act.put, List.setIfInBounds_toArray, List.set_cons_zero, List.set_cons_succ]
            refine wpAnyH_done (by kernel_rfl) ?_ _
            gi_wp2
            have hst := HJ.out.1.step (((Mod.refl (fun _ => False) _).drew).drew)
            have hfin := hst.put (lo' := .loop (rec .ready none)) (loop_no _)
            exact ⟨hst.hL, rfl, ⟨_, by rw [HST.out, HAD.out]; exact hfin⟩, fun b hb hf => HE.out.keeps hfin (Mod.putObj (HM4.out.drew.drew) _ _ (.inl (.inr (.inl rfl)))) (.inl rfl) hb hf⟩
          · have hptI : (p.frm + p.cnt == sr) = false := by rw [beq_eq_false_iff_ne]; exact hpt
            have HAD := hid (show addJ (O' ++ [p]) ⟨kf, sr, sc⟩ = (O' ++ [p]) ++ [⟨kf, sr, sc⟩] by
              unfold addJ
              rw [hlast]
              simp only
              rw [if_neg (fun q => hpt q.2)])
            clear hpf hpt
            gi_wp2_with fail
            refine wp_region_round (fun w' => w'.cell? ⟨w.heap.size + 2, 0, none⟩ = some (.slice (some ⟨g, 0, none⟩) (O'.length + 1) cap) ∧ w'.cell? ⟨g, O'.length * 3, none⟩ = some (.int .i64 p.file) ∧ w'.cell? ⟨g, O'.length * 3 + 1, none⟩ = some (.int .i64 p.frm) ∧ w'.cell? ⟨g, O'.length * 3 + 2, none⟩ = some (.int .i64 p.cnt) ∧ w'.cell? ⟨W.heap.size, 0, none⟩ = some (.int .i64 kf) ∧ w'.cell? ⟨W.heap.size, 1, none⟩ = some (.int .i64 sr) ∧ w'.cell? ⟨W.heap.size, 2, none⟩ = some (.int .i64 sc)) (by kernel_rfl) (noDefer_spec (by kernel_rfl)) (by rintro ⟨a, w, q⟩; exact q) ⟨c9, y0, y1, y2, x0, x1, x2⟩ (fun hHeld => ?_)
            refine wpAnyH_take (i := 0) (v := ?_) (by simp only [List.getElem?_toArray, List.getElem?_cons_succ, List.getElem?_cons_zero]; rfl) (by kernel_rfl) (by kernel_rfl) (by kernel_rfl) (by intro _ _ _ h; exact h) (Or.inl ⟨by rfl, ?_⟩) (by assumption) ?_
            rotate_left
            · intro w hSw
              (try dsimp only at hSw)
              first | (go_simp; done) | (go_simp; with_reducible rfl) | with_reducible rfl
            simp only [Act.put, List.setIfInBounds_toArray, List.set_cons_zero, List.set_cons_succ]
            refine wpAnyH_take (i := 1) (v := ?_) (by simp only [List.getElem?_toArray, List.getElem?_cons_succ, List.getElem?_cons_zero]; rfl) (by kernel_rfl) (by kernel_rfl) (by kernel_rfl) (by intro _ _ _ h; exact h) (Or.inl ⟨by rfl, ?_⟩) (by assumption) ?_
            rotate_left
            · intro w hSw
              (try dsimp only at hSw)
              first | (go_simp; done) | (go_simp; with_reducible rfl) | with_reducible rfl
            simp only [Act.put, List.setIfInBounds_toArray, List.set_cons_zero, List.set_cons_succ]
            refine wpAnyH_take (i := 2) (v := ?_) (by simp only [List.getElem?_toArray, List.getElem?_cons_succ, List.getElem?_cons_zero]; rfl) (by kernel_rfl) (by kernel_rfl) (by kernel_rfl) (by intro _ _ _ h; exact h) (Or.inl ⟨by rfl, ?_⟩) (by assumption) ?_
            rotate_left
            · intro w hSw
              (try dsimp only at hSw)
              first | (go_simp; done) | (go_simp; with_reducible rfl) | with_reducible rfl
            simp only [Act.put, List.setIfInBounds_toArray, List.set_cons_zero, List.set_cons_succ]
            refine wpAnyH_take (i := 3) (v := ?_) (by simp only [List.getElem?_toArray, List.getElem?_cons_succ, List.getElem?_cons_zero]; rfl) (by kernel_rfl) (by kernel_rfl) (by kernel_rfl) (by intro _ _ _ h; exact h) (Or.inl ⟨by rfl, ?_⟩) (by assumption) ?_
            rotate_left
            · intro w hSw
              (try dsimp only at hSw)
              first | (go_simp; done) | (go_simp; with_reducible rfl) | with_reducible rfl
            simp only [Act.put, List.setIfInBounds_toArray, List.set_cons_zero, List.set_cons_succ]
            refine wpAnyH_take (i := 4) (v := ?_) (by simp only [List.getElem?_toArray, List.getElem?_cons_succ, List.getElem?_cons_zero]; rfl) (by kernel_rfl) (by kernel_rfl) (by kernel_rfl) (by intro _ _ _ h; exact h) (Or.inl ⟨by rfl, ?_⟩) (by assumption) ?_
            rotate_left
            · intro w hSw
              (try dsimp only at hSw)
              first | (go_simp; done) | (go_simp; with_reducible rfl) | with_reducible rfl
            simp only [Act.put, List.setIfInBounds_toArray, List.set_cons_zero, List.set_cons_succ]
            refine wpAnyH_take (i := 5) (v := ?_) (by simp only [List.getElem?_toArray, List.getElem?_cons_succ, List.getElem?_cons_zero]; rfl) (by kernel_rfl) (by kernel_rfl) (by kernel_rfl) (by intro _ _ _ h; exact h) (Or.inl ⟨by rfl, ?_⟩) (by assumption) ?_
            rotate_left
            · intro w hSw
              (try dsimp only at hSw)
              first | (go_simp; done) | (go_simp; with_reducible rfl) | with_reducible rfl
            simp only [Act.put, List.setIfInBounds_toArray, List.set_cons_zero, List.set_cons_succ]
            refine wpAnyH_take (i := 6) (v := ?_) (by simp only [List.getElem?_toArray, List.getElem?_cons_succ, List.getElem?_cons_zero]; rfl) (by kernel_rfl) (by kernel_rfl) (by kernel_rfl) (by intro _ _ _ h; exact h) (Or.inl ⟨by rfl, ?_⟩) (by assumption) ?_
            rotate_left
            · intro w hSw
              (try dsimp only at hSw)
              first | (go_simp; done) | (go_simp; with_reducible rfl) | with_reducible rfl
            simp only [Act.put, List.setIfInBounds_toArray, List.set_cons_zero, List.set_cons_succ]
            refine wpAnyH_take (i := 7) (v := ?_) (by simp only [List.getElem?_toArray, List.getElem?_cons_succ, List.getElem?_cons_zero]; rfl) (by kernel_rfl) (by kernel_rfl) (by kernel_rfl) (by intro _ _ _ h; exact h) (Or.inl ⟨by rfl, ?_⟩) (by assumption) ?_
            rotate_left
            · intro w hSw
              (try dsimp only at hSw)
              first | (go_simp; done) | (go_simp; with_reducible rfl) | with_reducible rfl
            simp only [Act.put, List.setIfInBounds_toArray, List.set_cons_zero, List.set_cons_succ]
            refine wpAnyH_take (i := 8) (v := ?_) (by simp only [List.getElem?_toArray, List.getElem?_cons_succ, List.getElem?_cons_zero]; rfl) (by kernel_rfl) (by kernel_rfl) (by kernel_rfl) (by intro _ _ _ h; exact h) (Or.inl ⟨by rfl, ?_⟩) (by assumption) ?_
            rotate_left
            · intro w hSw
              (try dsimp only at hSw)
              first | (go_simp; done) | (go_simp; with_reducible rfl) | with_reducible rfl
            simp only [Act.put, List.setIfInBounds_toArray, List.set_cons_zero, List.set_cons_succ]
            refine wpAnyH_take (i := 9) (v := ?_) (by simp only [List.getElem?_toArray, List.getElem?_cons_succ, List.getElem?_cons_zero]; rfl) (by kernel_rfl) (by kernel_rfl) (by kernel_rfl) (by intro _ _ _ h; exact h) (Or.inl ⟨by rfl, ?_⟩) (by assumption) ?_
            rotate_left
            · intro w hSw
              (try dsimp only at hSw)
              first | (go_simp; done) | (go_simp; with_reducible rfl) | with_reducible rfl
            simp only [Act.put, List.setIfInBounds_toArray, List.set_cons_zero, List.set_cons_succ]
            refine wpAnyH_take (i := 10) (v := ?_) (by simp only [List.getElem?_toArray, List.getElem?_cons_succ, List.getElem?_cons_zero]; rfl) (by kernel_rfl) (by kernel_rfl) (by kernel_rfl) (by intro _ _ _ h; exact h) (Or.inl ⟨by rfl, ?_⟩) (by assumption) ?_
            rotate_left
            · intro w hSw
              (try dsimp only at hSw)
              first | (go_simp; done) | (go_simp; with_reducible rfl) | with_reducible rfl
            simp only [Act.put, List.setIfInBounds_toArray, List.set_cons_zero, List.set_cons_succ]
            refine wpAnyH_take (i := 11) (v := ?_) (by simp only [List.getElem?_toArray, List.getElem?_cons_succ, List.getElem?_cons_zero]; rfl) (by kernel_rfl) (by kernel_rfl) (by kernel_rfl) (by intro _ _ _ h; exact h) (Or.inl ⟨by rfl, ?_⟩) (by assumption) ?_
            rotate_left
            · intro w hSw
              (try dsimp only at hSw)
              first | (go_simp; done) | (go_simp; with_reducible rfl) | with_reducible rfl
            simp only [Act.put, List.setIfInBounds_toArray, List.set_cons_zero, List.set_cons_succ]
            refine wpAnyH_take (i := 12) (v := ?_) (by simp only [List.getElem?_toArray, List.getElem?_cons_succ, List.getElem?_cons_zero]; rfl) (by kernel_rfl) (by kernel_rfl) (by kernel_rfl) (by intro _ _ _ h; exact h) (Or.inl ⟨by rfl, ?_⟩) (by assumption) ?_
            rotate_left
            · intro w hSw
              (try dsimp only at hSw)
              first | (go_simp; done) | (go_simp; with_reducible rfl) | with_reducible rfl
            simp only [Act.put, List.setIfInBounds_toArray, List.set_cons_zero, List.set_cons_succ]
            refine wpAnyH_take (i := 13) (v := ?_) (by simp only [List.getElem?_toArray, List.getElem?_cons_succ, List.getElem?_cons_zero]; rfl) (by kernel_rfl) (by kernel_rfl) (by kernel_rfl) (by intro _ _ _ h; exact h) (Or.inl ⟨by rfl, ?_⟩) (by assumption) ?_
            rotate_left
            · intro w hSw
              (try dsimp only at hSw)
              first | (go_simp; done) | (go_simp; with_reducible rfl) | with_reducible rfl
            simp only [Act.put, List.setIfInBounds_toArray, List.set_cons_zero, List.set_cons_succ]
            refine wpAnyH_take (i := 14) (v := ?_) (by simp only [List.getElem?_toArray, List.getElem?_cons_succ, List.getElem?_cons_zero]; rfl) (by kernel_rfl) (by kernel_rfl) (by kernel_rfl) (by intro _ _ _ h; exact h) (Or.inl ⟨by rfl, ?_⟩) (by assumption) ?_
            rotate_left
            · intro w hSw
              (try dsimp only at hSw)
              first | (go_simp; done) | (go_simp; with_reducible rfl) | with_reducible rfl
            simp only [Act.put, List.setIfInBounds_toArray, List.set_cons_zero, List.set_cons_succ]
            refine wpAnyH_take (i := 15) (v := ?_) (by simp only [List.getElem?_toArray, List.getElem?_cons_succ, List.getElem?_cons_zero]; rfl) (by kernel_rfl) (by kernel_rfl) (by kernel_rfl) (by intro _ _ _ h; exact h) (Or.inl ⟨by rfl, ?_⟩) (by assumption) ?_
            rotate_left
            · intro w hSw
              (try dsimp only at hSw)
              first | (go_simp; done) | (go_simp; with_reducible rfl) | with_reducible rfl
            simp only [Act.put, List.setIfInBounds_toArray, List.set_cons_zero, List.set_cons_succ]
            refine wpAnyH_take (i := 16) (v := ?_) (by simp only [List.getElem?_toArray, List.getElem?_cons_succ, List.getElem?_cons_zero]; rfl) (by kernel_rfl) (by kernel_rfl) (by kernel_rfl) (by intro _ _ _ h; exact h) (Or.inl ⟨by rfl, ?_⟩) (by assumption) ?_
            rotate_left
            · intro w hSw
              (try dsimp only at hSw)
              first | (go_simp; done) | (go_simp; with_reducible rfl) | with_reducible rfl
            simp only [Act.put, List.setIfInBounds_toArray, List.set_cons_zero, List.set_cons_succ]
            refine wpAnyH_take (i := 17) (v := ?_) (by simp only [List.getElem?_toArray, List.getElem?_cons_succ, List.getElem?_cons_zero]; rfl) (by kernel_rfl) (by kernel_rfl) (by kernel_rfl) (by intro _ _ _ h; exact h) (Or.inl ⟨by rfl, ?_⟩) (by assumption) ?_
            rotate_left
            · intro w hSw
              (try dsimp only at hSw)
              first | (go_simp; done) | (go_simp; with_reducible rfl) | with_reducible rfl
            simp only [Act.put, List.setIfInBounds_toArray, List.set_cons_zero, List.set_cons_succ]
            refine wpAnyH_take (i := 18) (v := ?_) (by simp only [List.getElem?_toArray, List.getElem?_cons_succ, List.getElem?_cons_zero]; rfl) (by kernel_rfl) (by kernel_rfl) (by kernel_rfl) (by intro _ _ _ h; exact h) (Or.inl ⟨by rfl, ?_⟩) (by assumption) ?_
            rotate_left
            · intro w hSw
              (try dsimp only at hSw)
              first | (go_simp; done) | (go_simp; with_reducible rfl) | with_reducible rfl
            simp only [Act.put, List.setIfInBounds_toArray, List.set_cons_zero, List.set_cons_succ]
            refine wpAnyH_take (i := 19) (v := ?_) (by simp only [List.getElem?_toArray, List.getElem?_cons_succ, List.getElem?_cons_zero]; rfl) (by kernel_rfl) (by kernel_rfl) (by kernel_rfl) (by intro _ _ _ h; exact h) (Or.inl ⟨by rfl, ?_⟩) (by assumption) ?_
            rotate_left
            · intro w hSw
              (try dsimp only at hSw)
              first | (go_simp; done) | (go_simp; with_reducible rfl) | with_reducible rfl
            simp only [Act.put, List.setIfInBounds_toArray, List.set_cons_zero, List.set_cons_succ]
            refine wpAnyH_take (i := 20) (v := ?_) (by simp only [List.getElem?_toArray, List.getElem?_cons_succ, List.getElem?_cons_zero]; rfl) (by kernel_rfl) (by kernel_rfl) (by kernel_rfl) (by intro _ _ _ h; exact h) (Or.inl ⟨by rfl, ?_⟩) (by assumption) ?_
            rotate_left
            · intro w hSw
              (try dsimp only at hSw)
              first | (go_simp; done) | (go_simp; with_reducible rfl) | with_reducible rfl
            simp only [Act.put, List.setIfInBounds_toArray, List.set_cons_zero, List.set_cons_succ]
            refine wpAnyH_take (i := 21) (v := ?_) (by simp only [List.getElem?_toArray, List.getElem?_cons_succ, List.getElem?_cons_zero]; rfl) (by kernel_rfl) (by kernel_rfl) (by kernel_rfl) (by intro _ _ _ h; exact h) (Or.inl ⟨by rfl, ?_⟩) (by assumption) ?_
            rotate_left
            · intro w hSw
              (try dsimp only at hSw)
              first | (go_simp; done) | (go_simp; with_reducible rfl) | with_reducible rfl
            simp only [Act.put, List.setIfInBounds_toArray, List.set_cons_zero, List.set_cons_succ]
            refine wpAnyH_take (i := 22) (v := ?_) (by simp only [List.getElem?_toArray, List.getElem?_cons_succ, List.getElem?_cons_zero]; rfl) (by kernel_rfl) (by kernel_rfl) (by kernel_rfl) (by intro _ _ _ h; exact h) (Or.inl ⟨by rfl, ?_⟩) (by assumption) ?_
            rotate_left
            · intro w hSw
              (try dsimp only at hSw)
              first | (go_simp; done) | (go_simp; with_reducible rfl) | with_reducible rfl
            simp only [Act.put, List.setIfInBounds_toArray, List.set_cons_zero, List.set_cons_succ]
            refine wpAnyH_take (i := 23) (v := ?_) (by simp only [List.getElem?_toArray, List.getElem?_cons_succ, List.getElem?_cons_zero]; rfl) (by kernel_rfl) (by kernel_rfl) (by kernel_rfl) (by intro _ _ _ h; exact h) (Or.inl ⟨by rfl, ?_⟩) (by assumption) ?_
            rotate_left
            · intro w hSw
              (try dsimp only at hSw)
              first | (go_simp; done) | (go_simp; with_reducible rfl) | with_reducible rfl
            simp only [Act.put, List.setIfInBounds_toArray, List.set_cons_zero, List.set_cons_succ]
            refine wpAnyH_take (i := 24) (v := ?_) (by simp only [List.getElem?_toArray, List.getElem?_cons_succ, List.getElem?_cons_zero]; rfl) (by kernel_rfl) (by kernel_rfl) (by kernel_rfl) (by intro _ _ _ h; exact h) (Or.inl ⟨by rfl, ?_⟩) (by assumption) ?_
            rotate_left
            · intro w hSw
              (try dsimp only at hSw)
              first | (go_simp; done) | (go_simp; with_reducible rfl) | with_reducible rfl
            simp only [Act.put, List.setIfInBounds_toArray, List.set_cons_zero, List.set_cons_succ]
            refine wpAnyH_take (i := 25) (v := ?_) (by simp only [List.getElem?_toArray, List.getElem?_cons_succ, List.getElem?_cons_zero]; rfl) (by kernel_rfl) (by kernel_rfl) (by kernel_rfl) (by intro _ _ _ h; exact h) (Or.inl ⟨by rfl, ?_⟩) (by assumption) ?_
            rotate_left
            · intro w hSw
              (try dsimp only at hSw)
              first | (go_simp; done) | (go_simp; with_reducible rfl) | with_reducible rfl
            simp only [Act.put, List.setIfInBounds_toArray, List.set_cons_zero, List.set_cons_succ]
            refine wpAnyH_take (i := 26) (v := ?_) (by simp only [List.getElem?_toArray, List.getElem?_cons_succ, List.getElem?_cons_zero]; rfl) (by kernel_rfl) (by kernel_rfl) (by kernel_rfl) (by intro _ _ _ h; exact h) (Or.inl ⟨by rfl, ?_⟩) (by assumption) ?_
            rotate_left
            · intro w hSw
              (try dsimp only at hSw)
              first | (go_simp; done) | (go_simp; with_reducible rfl) | with_reducible rfl
            simp only [Act.put, List.setIfInBounds_toArray, List.set_cons_zero, List.set_cons_succ]
            refine wpAnyH_take (i := 27) (v := ?_) (by simp only [List.getElem?_toArray, List.getElem?_cons_succ, List.getElem?_cons_zero]; rfl) (by kernel_rfl) (by kernel_rfl) (by kernel_rfl) (by intro _ _ _ h; exact h) (Or.inl ⟨by rfl, ?_⟩) (by assumption) ?_
            rotate_left
            · intro w hSw
              (try dsimp only at hSw)
              first | (go_simp; done) | (go_simp; with_reducible rfl) | with_reducible rfl
            simp only [Act.put, List.setIfInBounds_toArray, List.set_cons_zero, List.set_cons_succ]
            refine wpAnyH_take (i := 28) (v := ?_) (by simp only [List.getElem?_toArray, List.getElem?_cons_succ, List.getElem?_cons_zero]; rfl) (by kernel_rfl) (by kernel_rfl) (by kernel_rfl) (by intro _ _ _ h; exact h) (Or.inl ⟨by rfl, ?_⟩) (by assumption) ?_
            rotate_left
            · intro w hSw
              (try dsimp only at hSw)
              first | (go_simp; done) | (go_simp; with_reducible rfl) | with_reducible rfl
            simp only [Act.put, List.setIfInBounds_toArray, List.set_cons_zero, List.set_cons_succ]
            refine wpAnyH_take (i := 29) (v := ?_) (by simp only [List.getElem?_toArray, List.getElem?_cons_succ, List.getElem?_cons_zero]; rfl) (by kernel_rfl) (by kernel_rfl) (by kernel_rfl) (by intro _ _ _ h; exact h) (Or.inl ⟨by rfl, ?_⟩) (by assumption) ?_
            rotate_left
            · intro w hSw
              (try dsimp only at hSw)
              first | (go_simp; done) | (go_simp; with_reducible rfl) | with_reducible rfl
            simp only [Act.put, List.setIfInBounds_toArray, List.set_cons_zero, List.set_cons_succ]
            refine wpAnyH_take (i := 30) (v := ?_) (by simp only [List.getElem?_toArray, List.getElem?_cons_succ, List.getElem?_cons_zero]; rfl) (by kernel_rfl) (by kernel_rfl) (by kernel_rfl) (by intro _ _ _ h; exact h) (Or.inl ⟨by rfl, ?_⟩) (by assumption) ?_
            rotate_left
            · intro w hSw
              (try dsimp only at hSw)
              first | (go_simp; done) | (go_simp; with_reducible rfl) | with_reducible rfl
            simp only [Act.put, List.setIfInBounds_toArray, List.set_cons_zero, List.set_cons_succ]
            refine wpAnyH_done (by kernel_rfl) ?_ _
            gi_wp2_with (gi_at_builtin; refine wpListIn_append_own_at _ rfl _ _ 65 rfl (w.heap.size + 9) 113 i0 _ 3 24 Tryz.underlying65 hi hz0 hz1 hz2 rfl (by decide) (.slice (some ⟨g, 0, none⟩) (O'.length + 1) cap) (O'.length + 1) (spanRow (O' ++ [p])) rfl ?ow ⟨W3.heap.size, 0, none⟩ 1 1 (spanCells ⟨kf, sr, sc⟩) rfl rfl ?hn ?h1 ?h63 ?hby ?hba ?_)
            case ow =>
              have q : W3.ownsRow (w.heap.size + 9) 113 3 (.slice (some ⟨g, 0, none⟩) (O'.length + 1) cap) (O'.length + 1) (spanRow ((O' ++ [p]))) := by
                have := HE3.out.ow
                unfold OwnS at this
                first | exact this | (rw [hOl] at this; exact this)
              exact owns_mod q (((Mod.refl (fun _ => False) _).alloc _).drew) (fun _ _ q => q)
            case hn =>
              have := three_new W3 (.int .i64 kf) (.int .i64 sr) (.int .i64 sc) 113
              simpa [spanCells] using this
            case h1 => intro u hu; simp [spanCells] at hu; rcases hu with rfl | rfl | rfl <;> rfl
            case h63 => unfold maxLen; first | omega | (simp only [List.length_nil] at hlen ⊢; omega)
            case hby => first | omega | (simp only [List.length_nil] at hlen ⊢; omega)
            case hba => simp; have := HS3.out; omega
            intro v' w' hr2 hg2 hne2 hat
            have hO2 : OwnS w' (w.heap.size + 9) v' (((O' ++ [p])) ++ [⟨kf, sr, sc⟩]) := by
              unfold OwnS
              rw [spanRow_app, List.length_append]
              first | exact hr2 | (rw [hOl]; exact hr2)
            obtain ⟨hE4, hM4⟩ := (HE3.out.step (((Mod.refl (fun _ => False) _).alloc (.cells #[.int .i64 kf, .int .i64 sr, .int .i64 sc] 113)).drew)).push hg2 hO2
            have HAT : Hid (v'.ownBlock = (Value.slice (some ⟨g, 0, none⟩) (O'.length + 1) cap).ownBlock ∨ ∃ g, v'.ownBlock = some g ∧ W.heap.size ≤ g) := hid (by
              rcases hat with q | q
              · exact .inl q
              · exact .inr ⟨_, q, by have := HS3.out; simp; omega⟩)
            have HE4 := hid hE4
            have HM4 : Hid (Mod (fun k => k = w.heap.size + 2 ∨ k = w.heap.size + 8 ∨ some k = (Value.slice (some ⟨g, 0, none⟩) (O'.length + 1) cap).ownBlock) W (w'.setCell ⟨w.heap.size + 2, 0, none⟩ v')) := hid
              ((((HM3.out.mono (fun k _ q => .inr (.inl q))).alloc (.cells #[.int .i64 kf, .int .i64 sr, .int .i64 sc] 113)).drew).trans' hM4 (fun k _ q => by rcases q with q | q; exact .inl q; exact .inr (.inr q)))
            have hb9 : w.heap.size + 2 < w'.heap.size := by have := hE4.ob.lt; simpa using this
            have hf9 : ∀ i, w'.frozen? ⟨w.heap.size + 2, i, none⟩ = false := fun i => by
              have hbl : Blk w' (w.heap.size + 2) #[.slice (some ⟨g, 0, none⟩) (O'.length + 1) cap] 65 := (New.blk (((Mod.refl (fun _ => False) _).alloc (.cells #[.int .i64 kf, .int .i64 sr, .int .i64 sc] 113)).drew) HE3.out.ob).of_heap (hg2.block _ (by have := HE3.out.ob.lt; simp; omega) (fun q => by have := (HE3.out.ow.blk q.symm).1; omega))
              exact hbl.frz i
            have hc9 : ∃ u, w'.cell? ⟨w.heap.size + 2, 0, none⟩ = some u := by
              have hbl : Blk w' (w.heap.size + 2) #[.slice (some ⟨g, 0, none⟩) (O'.length + 1) cap] 65 := (New.blk (((Mod.refl (fun _ => False) _).alloc (.cells #[.int .i64 kf, .int .i64 sr, .int .i64 sc] 113)).drew) HE3.out.ob).of_heap (hg2.block _ (by have := HE3.out.ob.lt; simp; omega) (fun q => by have := (HE3.out.ow.blk q.symm).1; omega))
              exact ⟨_, hbl.cellv 0 rfl⟩
            obtain ⟨u9, c9'⟩ := hc9
            obtain ⟨av2, cv2, hv2, -, -⟩ := hO2.spansB
            have hKl : (((O' ++ [p])) ++ [(⟨kf, sr, sc⟩ : SpanV)]).length = (O'.length + 1) + 1 := by simp
            rw [hKl] at hv2
            subst hv2
            clear hr2 hg2 hne2 hat hO2 hE4 hM4 c9 f9 b9
            gi_wp2
            have hfin := HE4.out.put (lo' := .loop (rec .ready none)) (loop_no _)
            exact ⟨HE4.out.hL, rfl, ⟨_, by rw [HST.out, HAD.out]; exact hfin⟩, fun b hb hf => HE.out.keeps hfin (Mod.putObj HM4.out _ _ (.inl (.inr (.inl rfl)))) HAT.out hb hf⟩
        · have hpfI : (p.file == (kf : Int)) = false := by rw [beq_eq_false_iff_ne]; exact hpf
          have HAD := hid (show addJ (O' ++ [p]) ⟨kf, sr, sc⟩ = (O' ++ [p]) ++ [⟨kf, sr, sc⟩] by
            unfold addJ
            rw [hlast]
            simp only
            rw [if_neg (fun q => hpf q.1)])
          clear hpf
          gi_wp2_with fail
          refine wp_region_round (fun w' => w'.cell? ⟨w.heap.size + 2, 0, none⟩ = some (.slice (some ⟨g, 0, none⟩) (O'.length + 1) cap) ∧ w'.cell? ⟨g, O'.length * 3, none⟩ = some (.int .i64 p.file) ∧ w'.cell? ⟨g, O'.length * 3 + 1, none⟩ = some (.int .i64 p.frm) ∧ w'.cell? ⟨g, O'.length * 3 + 2, none⟩ = some (.int .i64 p.cnt) ∧ w'.cell? ⟨W.heap.size, 0, none⟩ = some (.int .i64 kf) ∧ w'.cell? ⟨W.heap.size, 1, none⟩ = some (.int .i64 sr) ∧ w'.cell? ⟨W.heap.size, 2, none⟩ = some (.int .i64 sc)) (by kernel_rfl) (noDefer_spec (by kernel_rfl)) (by rintro ⟨a, w, q⟩; exact q) ⟨c9, y0, y1, y2, x0, x1, x2⟩ (fun hHeld => ?_)
          refine wpAnyH_take (i := 0) (v := ?_) (by simp only [List.getElem?_toArray, List.getElem?_cons_succ, List.getElem?_cons_zero]; rfl) (by kernel_rfl) (by kernel_rfl) (by kernel_rfl) (by intro _ _ _ h; exact h) (Or.inl ⟨by rfl, ?_⟩) (by assumption) ?_
          rotate_left
          · intro w hSw
            (try dsimp only at hSw)
            first | (go_simp; done) | (go_simp; with_reducible rfl) | with_reducible rfl
          simp only [Act.put, List.setIfInBounds_toArray, List.set_cons_zero, List.set_cons_succ]
          refine wpAnyH_take (i := 1) (v := ?_) (by simp only [List.getElem?_toArray, List.getElem?_cons_succ, List.getElem?_cons_zero]; rfl) (by kernel_rfl) (by kernel_rfl) (by kernel_rfl) (by intro _ _ _ h; exact h) (Or.inl ⟨by rfl, ?_⟩) (by assumption) ?_
          rotate_left
          · intro w hSw
            (try dsimp only at hSw)
            first | (go_simp; done) | (go_simp; with_reducible rfl) | with_reducible rfl
          simp only [Act.put, List.setIfInBounds_toArray, List.set_cons_zero, List.set_cons_succ]
          refine wpAnyH_take (i := 2) (v := ?_) (by simp only [List.getElem?_toArray, List.getElem?_cons_succ, List.getElem?_cons_zero]; rfl) (by kernel_rfl) (by kernel_rfl) (by kernel_rfl) (by intro _ _ _ h; exact h) (Or.inl ⟨by rfl, ?_⟩) (by assumption) ?_
          rotate_left
          · intro w hSw
            (try dsimp only at hSw)
            first | (go_simp; done) | (go_simp; with_reducible rfl) | with_reducible rfl
          simp only [Act.put, List.setIfInBounds_toArray, List.set_cons_zero, List.set_cons_succ]
          refine wpAnyH_take (i := 3) (v := ?_) (by simp only [List.getElem?_toArray, List.getElem?_cons_succ, List.getElem?_cons_zero]; rfl) (by kernel_rfl) (by kernel_rfl) (by kernel_rfl) (by intro _ _ _ h; exact h) (Or.inl ⟨by rfl, ?_⟩) (by assumption) ?_
          rotate_left
          · intro w hSw
            (try dsimp only at hSw)
            first | (go_simp; done) | (go_simp; with_reducible rfl) | with_reducible rfl
          simp only [Act.put, List.setIfInBounds_toArray, List.set_cons_zero, List.set_cons_succ]
          refine wpAnyH_take (i := 4) (v := ?_) (by simp only [List.getElem?_toArray, List.getElem?_cons_succ, List.getElem?_cons_zero]; rfl) (by kernel_rfl) (by kernel_rfl) (by kernel_rfl) (by intro _ _ _ h; exact h) (Or.inl ⟨by rfl, ?_⟩) (by assumption) ?_
          rotate_left
          · intro w hSw
            (try dsimp only at hSw)
            first | (go_simp; done) | (go_simp; with_reducible rfl) | with_reducible rfl
          simp only [Act.put, List.setIfInBounds_toArray, List.set_cons_zero, List.set_cons_succ]
          refine wpAnyH_take (i := 5) (v := ?_) (by simp only [List.getElem?_toArray, List.getElem?_cons_succ, List.getElem?_cons_zero]; rfl) (by kernel_rfl) (by kernel_rfl) (by kernel_rfl) (by intro _ _ _ h; exact h) (Or.inl ⟨by rfl, ?_⟩) (by assumption) ?_
          rotate_left
          · intro w hSw
            (try dsimp only at hSw)
            first | (go_simp; done) | (go_simp; with_reducible rfl) | with_reducible rfl
          simp only [Act.put, List.setIfInBounds_toArray, List.set_cons_zero, List.set_cons_succ]
          refine wpAnyH_take (i := 6) (v := ?_) (by simp only [List.getElem?_toArray, List.getElem?_cons_succ, List.getElem?_cons_zero]; rfl) (by kernel_rfl) (by kernel_rfl) (by kernel_rfl) (by intro _ _ _ h; exact h) (Or.inl ⟨by rfl, ?_⟩) (by assumption) ?_
          rotate_left
          · intro w hSw
            (try dsimp only at hSw)
            first | (go_simp; done) | (go_simp; with_reducible rfl) | with_reducible rfl
          simp only [Act.put, List.setIfInBounds_toArray, List.set_cons_zero, List.set_cons_succ]
          refine wpAnyH_take (i := 7) (v := ?_) (by simp only [List.getElem?_toArray, List.getElem?_cons_succ, List.getElem?_cons_zero]; rfl) (by kernel_rfl) (by kernel_rfl) (by kernel_rfl) (by intro _ _ _ h; exact h) (Or.inl ⟨by rfl, ?_⟩) (by assumption) ?_
          rotate_left
          · intro w hSw
            (try dsimp only at hSw)
            first | (go_simp; done) | (go_simp; with_reducible rfl) | with_reducible rfl
          simp only [Act.put, List.setIfInBounds_toArray, List.set_cons_zero, List.set_cons_succ]
          refine wpAnyH_take (i := 8) (v := ?_) (by simp only [List.getElem?_toArray, List.getElem?_cons_succ, List.getElem?_cons_zero]; rfl) (by kernel_rfl) (by kernel_rfl) (by kernel_rfl) (by intro _ _ _ h; exact h) (Or.inl ⟨by rfl, ?_⟩) (by assumption) ?_
          rotate_left
          · intro w hSw
            (try dsimp only at hSw)
            first | (go_simp; done) | (go_simp; with_reducible rfl) | with_reducible rfl
          simp only [Act.put, List.setIfInBounds_toArray, List.set_cons_zero, List.set_cons_succ]
          refine wpAnyH_take (i := 9) (v := ?_) (by simp only [List.getElem?_toArray, List.getElem?_cons_succ, List.getElem?_cons_zero]; rfl) (by kernel_rfl) (by kernel_rfl) (by kernel_rfl) (by intro _ _ _ h; exact h) (Or.inl ⟨by rfl, ?_⟩) (by assumption) ?_
          rotate_left
          · intro w hSw
            (try dsimp only at hSw)
            first | (go_simp; done) | (go_simp; with_reducible rfl) | with_reducible rfl
          simp only [Act.put, List.setIfInBounds_toArray, List.set_cons_zero, List.set_cons_succ]
          refine wpAnyH_take (i := 10) (v := ?_) (by simp only [List.getElem?_toArray, List.getElem?_cons_succ, List.getElem?_cons_zero]; rfl) (by kernel_rfl) (by kernel_rfl) (by kernel_rfl) (by intro _ _ _ h; exact h) (Or.inl ⟨by rfl, ?_⟩) (by assumption) ?_
          rotate_left
          · intro w hSw
            (try dsimp only at hSw)
            first | (go_simp; done) | (go_simp; with_reducible rfl) | with_reducible rfl
          simp only [Act.put, List.setIfInBounds_toArray, List.set_cons_zero, List.set_cons_succ]
          refine wpAnyH_take (i := 11) (v := ?_) (by simp only [List.getElem?_toArray, List.getElem?_cons_succ, List.getElem?_cons_zero]; rfl) (by kernel_rfl) (by kernel_rfl) (by kernel_rfl) (by intro _ _ _ h; exact h) (Or.inl ⟨by rfl, ?_⟩) (by assumption) ?_
          rotate_left
          · intro w hSw
            (try dsimp only at hSw)
            first | (go_simp; done) | (go_simp; with_reducible rfl) | with_reducible rfl
          simp only [Act.put, List.setIfInBounds_toArray, List.set_cons_zero, List.set_cons_succ]
          refine wpAnyH_take (i := 12) (v := ?_) (by simp only [List.getElem?_toArray, List.getElem?_cons_succ, List.getElem?_cons_zero]; rfl) (by kernel_rfl) (by kernel_rfl) (by kernel_rfl) (by intro _ _ _ h; exact h) (Or.inl ⟨by rfl, ?_⟩) (by assumption) ?_
          rotate_left
          · intro w hSw
            (try dsimp only at hSw)
            first | (go_simp; done) | (go_simp; with_reducible rfl) | with_reducible rfl
          simp only [Act.put, List.setIfInBounds_toArray, List.set_cons_zero, List.set_cons_succ]
          refine wpAnyH_take (i := 13) (v := ?_) (by simp only [List.getElem?_toArray, List.getElem?_cons_succ, List.getElem?_cons_zero]; rfl) (by kernel_rfl) (by kernel_rfl) (by kernel_rfl) (by intro _ _ _ h; exact h) (Or.inl ⟨by rfl, ?_⟩) (by assumption) ?_
          rotate_left
          · intro w hSw
            (try dsimp only at hSw)
            first | (go_simp; done) | (go_simp; with_reducible rfl) | with_reducible rfl
          simp only [Act.put, List.setIfInBounds_toArray, List.set_cons_zero, List.set_cons_succ]
          refine wpAnyH_take (i := 14) (v := undef) (by simp only [List.getElem?_toArray, List.getElem?_cons_succ, List.getElem?_cons_zero]; rfl) (by kernel_rfl) (by kernel_rfl) (by kernel_rfl) (by intro _ _ _ h; exact h) (Or.inr ⟨by kernel_rfl, rfl⟩) (by assumption) ?_
          simp only [Act.put, List.setIfInBounds_toArray, List.set_cons_zero, List.set_cons_succ]
          refine wpAnyH_take (i := 15) (v := undef) (by simp only [List.getElem?_toArray, List.getElem?_cons_succ, List.getElem?_cons_zero]; rfl) (by kernel_rfl) (by kernel_rfl) (by kernel_rfl) (by intro _ _ _ h; exact h) (Or.inr ⟨by kernel_rfl, rfl⟩) (by assumption) ?_
          simp only [Act.put, List.setIfInBounds_toArray, List.set_cons_zero, List.set_cons_succ]
          refine wpAnyH_take (i := 16) (v := undef) (by simp only [List.getElem?_toArray, List.getElem?_cons_succ, List.getElem?_cons_zero]; rfl) (by kernel_rfl) (by kernel_rfl) (by kernel_rfl) (by intro _ _ _ h; exact h) (Or.inr ⟨by kernel_rfl, rfl⟩) (by assumption) ?_
          simp only [Act.put, List.setIfInBounds_toArray, List.set_cons_zero, List.set_cons_succ]
          refine wpAnyH_take (i := 17) (v := undef) (by simp only [List.getElem?_toArray, List.getElem?_cons_succ, List.getElem?_cons_zero]; rfl) (by kernel_rfl) (by kernel_rfl) (by kernel_rfl) (by intro _ _ _ h; exact h) (Or.inr ⟨by kernel_rfl, rfl⟩) (by assumption) ?_
          simp only [Act.put, List.setIfInBounds_toArray, List.set_cons_zero, List.set_cons_succ]
          refine wpAnyH_take (i := 18) (v := undef) (by simp only [List.getElem?_toArray, List.getElem?_cons_succ, List.getElem?_cons_zero]; rfl) (by kernel_rfl) (by kernel_rfl) (by kernel_rfl) (by intro _ _ _ h; exact h) (Or.inr ⟨by kernel_rfl, rfl⟩) (by assumption) ?_
          simp only [Act.put, List.setIfInBounds_toArray, List.set_cons_zero, List.set_cons_succ]
          refine wpAnyH_take (i := 19) (v := undef) (by simp only [List.getElem?_toArray, List.getElem?_cons_succ, List.getElem?_cons_zero]; rfl) (by kernel_rfl) (by kernel_rfl) (by kernel_rfl) (by intro _ _ _ h; exact h) (Or.inr ⟨by kernel_rfl, rfl⟩) (by assumption) ?_
          simp only [Act.put, List.setIfInBounds_toArray, List.set_cons_zero, List.set_cons_succ]
          refine wpAnyH_take (i := 20) (v := undef) (by simp only [List.getElem?_toArray, List.getElem?_cons_succ, List.getElem?_cons_zero]; rfl) (by kernel_rfl) (by kernel_rfl) (by kernel_rfl) (by intro _ _ _ h; exact h) (Or.inr ⟨by kernel_rfl, rfl⟩) (by assumption) ?_
          simp only [Act.put, List.setIfInBounds_toArray, List.set_cons_zero, List.set_cons_succ]
          refine wpAnyH_take (i := 21) (v := undef) (by simp only [List.getElem?_toArray, List.getElem?_cons_succ, List.getElem?_cons_zero]; rfl) (by kernel_rfl) (by kernel_rfl) (by kernel_rfl) (by intro _ _ _ h; exact h) (Or.inr ⟨by kernel_rfl, rfl⟩) (by assumption) ?_
          simp only [Act.put, List.setIfInBounds_toArray, List.set_cons_zero, List.set_cons_succ]
          refine wpAnyH_take (i := 22) (v := undef) (by simp only [List.getElem?_toArray, List.getElem?_cons_succ, List.getElem?_cons_zero]; rfl) (by kernel_rfl) (by kernel_rfl) (by kernel_rfl) (by intro _ _ _ h; exact h) (Or.inr ⟨by kernel_rfl, rfl⟩) (by assumption) ?_
          simp only [Act.put, List.setIfInBounds_toArray, List.set_cons_zero, List.set_cons_succ]
          refine wpAnyH_take (i := 23) (v := undef) (by simp only [List.getElem?_toArray, List.getElem?_cons_succ, List.getElem?_cons_zero]; rfl) (by kernel_rfl) (by kernel_rfl) (by kernel_rfl) (by intro _ _ _ h; exact h) (Or.inr ⟨by kernel_rfl, rfl⟩) (by assumption) ?_
          simp only [Act.put, List.setIfInBounds_toArray, List.set_cons_zero, List.set_cons_succ]
          refine wpAnyH_take (i := 24) (v := undef) (by simp only [List.getElem?_toArray, List.getElem?_cons_succ, List.getElem?_cons_zero]; rfl) (by kernel_rfl) (by kernel_rfl) (by kernel_rfl) (by intro _ _ _ h; exact h) (Or.inr ⟨by kernel_rfl, rfl⟩) (by assumption) ?_
          simp only [Act.put, List.setIfInBounds_toArray, List.set_cons_zero, List.set_cons_succ]
          refine wpAnyH_take (i := 25) (v := undef) (by simp only [List.getElem?_toArray, List.getElem?_cons_succ, List.getElem?_cons_zero]; rfl) (by kernel_rfl) (by kernel_rfl) (by kernel_rfl) (by intro _ _ _ h; exact h) (Or.inr ⟨by kernel_rfl, rfl⟩) (by assumption) ?_
          simp only [Act.put, List.setIfInBounds_toArray, List.set_cons_zero, List.set_cons_succ]
          refine wpAnyH_take (i := 26) (v := undef) (by simp only [List.getElem?_toArray, List.getElem?_cons_succ, List.getElem?_cons_zero]; rfl) (by kernel_rfl) (by kernel_rfl) (by kernel_rfl) (by intro _ _ _ h; exact h) (Or.inr ⟨by kernel_rfl, rfl⟩) (by assumption) ?_
          simp only [Act.put, List.setIfInBounds_toArray, List.set_cons_zero, List.set_cons_succ]
          refine wpAnyH_take (i := 27) (v := undef) (by simp only [List.getElem?_toArray, List.getElem?_cons_succ, List.getElem?_cons_zero]; rfl) (by kernel_rfl) (by kernel_rfl) (by kernel_rfl) (by intro _ _ _ h; exact h) (Or.inr ⟨by kernel_rfl, rfl⟩) (by assumption) ?_
          simp only [Act.put, List.setIfInBounds_toArray, List.set_cons_zero, List.set_cons_succ]
          refine wpAnyH_take (i := 28) (v := undef) (by simp only [List.getElem?_toArray, List.getElem?_cons_succ, List.getElem?_cons_zero]; rfl) (by kernel_rfl) (by kernel_rfl) (by kernel_rfl) (by intro _ _ _ h; exact h) (Or.inr ⟨by kernel_rfl, rfl⟩) (by assumption) ?_
          simp only [Act.put, List.setIfInBounds_toArray, List.set_cons_zero, List.set_cons_succ]
          refine wpAnyH_take (i := 29) (v := undef) (by simp only [List.getElem?_toArray, List.getElem?_cons_succ, List.getElem?_cons_zero]; rfl) (by kernel_rfl) (by kernel_rfl) (by kernel_rfl) (by intro _ _ _ h; exact h) (Or.inr ⟨by kernel_rfl, rfl⟩) (by assumption) ?_
          simp only [Act.put, List.setIfInBounds_toArray, List.set_cons_zero, List.set_cons_succ]
          refine wpAnyH_take (i := 30) (v := ?_) (by simp only [List.getElem?_toArray, List.getElem?_cons_succ, List.getElem?_cons_zero]; rfl) (by kernel_rfl) (by kernel_rfl) (by kernel_rfl) (by intro _ _ _ h; exact h) (Or.inl ⟨by rfl, ?_⟩) (by assumption) ?_
          rotate_left
          · intro w hSw
            (try dsimp only at hSw)
            first | (go_simp; done) | (go_simp; with_reducible rfl) | with_reducible rfl
          simp only [Act.put, List.setIfInBounds_toArray, List.set_cons_zero, List.set_cons_succ]
          refine wpAnyH_done (by kernel_rfl) ?_ _
          gi_wp2_with (gi_at_builtin; refine wpListIn_append_own_at _ rfl _ _ 65 rfl (w.heap.size + 9) 113 i0 _ 3 24 Tryz.underlying65 hi hz0 hz1 hz2 rfl (by decide) (.slice (some ⟨g, 0, none⟩) (O'.length + 1) cap) (O'.length + 1) (spanRow (O' ++ [p])) rfl ?ow ⟨W3.heap.size, 0, none⟩ 1 1 (spanCells ⟨kf, sr, sc⟩) rfl rfl ?hn ?h1 ?h63 ?hby ?hba ?_)
          case ow =>
            have q : W3.ownsRow (w.heap.size + 9) 113 3 (.slice (some ⟨g, 0, none⟩) (O'.length + 1) cap) (O'.length + 1) (spanRow ((O' ++ [p]))) := by
              have := HE3.out.ow
              unfold OwnS at this
              first | exact this | (rw [hOl] at this; exact this)
            exact owns_mod q (((Mod.refl (fun _ => False) _).alloc _).drew) (fun _ _ q => q)
          case hn =>
            have := three_new W3 (.int .i64 kf) (.int .i64 sr) (.int .i64 sc) 113
            simpa [spanCells] using this
          case h1 => intro u hu; simp [spanCells] at hu; rcases hu with rfl | rfl | rfl <;> rfl
          case h63 => unfold maxLen; first | omega | (simp only [List.length_nil] at hlen ⊢; omega)
          case hby => first | omega | (simp only [List.length_nil] at hlen ⊢; omega)
          case hba => simp; have := HS3.out; omega
          intro v' w' hr2 hg2 hne2 hat
          have hO2 : OwnS w' (w.heap.size + 9) v' (((O' ++ [p])) ++ [⟨kf, sr, sc⟩]) := by
            unfold OwnS
            rw [spanRow_app, List.length_append]
            first | exact hr2 | (rw [hOl]; exact hr2)
          obtain ⟨hE4, hM4⟩ := (HE3.out.step (((Mod.refl (fun _ => False) _).alloc (.cells #[.int .i64 kf, .int .i64 sr, .int .i64 sc] 113)).drew)).push hg2 hO2
          have HAT : Hid (v'.ownBlock = (Value.slice (some ⟨g, 0, none⟩) (O'.length + 1) cap).ownBlock ∨ ∃ g, v'.ownBlock = some g ∧ W.heap.size ≤ g) := hid (by
            rcases hat with q | q
            · exact .inl q
            · exact .inr ⟨_, q, by have := HS3.out; simp; omega⟩)
          have HE4 := hid hE4
          have HM4 : Hid (Mod (fun k => k = w.heap.size + 2 ∨ k = w.heap.size + 8 ∨ some k = (Value.slice (some ⟨g, 0, none⟩) (O'.length + 1) cap).ownBlock) W (w'.setCell ⟨w.heap.size + 2, 0, none⟩ v')) := hid
            ((((HM3.out.mono (fun k _ q => .inr (.inl q))).alloc (.cells #[.int .i64 kf, .int .i64 sr, .int .i64 sc] 113)).drew).trans' hM4 (fun k _ q => by rcases q with q | q; exact .inl q; exact .inr (.inr q)))
          have hb9 : w.heap.size + 2 < w'.heap.size := by have := hE4.ob.lt; simpa using this
          have hf9 : ∀ i, w'.frozen? ⟨w.heap.size + 2, i, none⟩ = false := fun i => by
            have hbl : Blk w' (w.heap.size + 2) #[.slice (some ⟨g, 0, none⟩) (O'.length + 1) cap] 65 := (New.blk (((Mod.refl (fun _ => False) _).alloc (.cells #[.int .i64 kf, .int .i64 sr, .int .i64 sc] 113)).drew) HE3.out.ob).of_heap (hg2.block _ (by have := HE3.out.ob.lt; simp; omega) (fun q => by have := (HE3.out.ow.blk q.symm).1; omega))
            exact hbl.frz i
          have hc9 : ∃ u, w'.cell? ⟨w.heap.size + 2, 0, none⟩ = some u := by
            have hbl : Blk w' (w.heap.size + 2) #[.slice (some ⟨g, 0, none⟩) (O'.length + 1) cap] 65 := (New.blk (((Mod.refl (fun _ => False) _).alloc (.cells #[.int .i64 kf, .int .i64 sr, .int .i64 sc] 113)).drew) HE3.out.ob).of_heap (hg2.block _ (by have := HE3.out.ob.lt; simp; omega) (fun q => by have := (HE3.out.ow.blk q.symm).1; omega))
            exact ⟨_, hbl.cellv 0 rfl⟩
          obtain ⟨u9, c9'⟩ := hc9
          obtain ⟨av2, cv2, hv2, -, -⟩ := hO2.spansB
          have hKl : (((O' ++ [p])) ++ [(⟨kf, sr, sc⟩ : SpanV)]).length = (O'.length + 1) + 1 := by simp
          rw [hKl] at hv2
          subst hv2
          clear hr2 hg2 hne2 hat hO2 hE4 hM4 c9 f9 b9
          gi_wp2
          have hfin := HE4.out.put (lo' := .loop (rec .ready none)) (loop_no _)
          exact ⟨HE4.out.hL, rfl, ⟨_, by rw [HST.out, HAD.out]; exact hfin⟩, fun b hb hf => HE.out.keeps hfin (Mod.putObj HM4.out _ _ (.inl (.inr (.inl rfl)))) HAT.out hb hf⟩
end Go.Proofs.YtnhgichiedninaaGreatDoor
