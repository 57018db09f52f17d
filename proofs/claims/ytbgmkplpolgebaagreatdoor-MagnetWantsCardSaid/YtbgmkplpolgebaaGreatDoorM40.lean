/-
  Several texts in one, in their build order. Two magnets put together (package magnet: Join): what the walk holds. Plain facts on worlds. Conditions as told.
-/
import Derived.Test.YtbgmkplpolgebaaGreatDoorM35
import Derived.Test.YtbgmkplpolgebaaGreatDoorM37
import Derived.Test.YtbgmkplpolgebaaGreatDoorM38
import Derived.Test.YtbgmkplpolgebaaGreatDoorM39
namespace Go.Proofs.YtbgmkplpolgebaaGreatDoor
set_option linter.unusedSimpArgs false
set_option linter.unusedVariables false
open Go.RowKit Go.Shelf

theorem OwnS.at4 {w : World} {base : Nat} {v : Value} {l : List ByteArray} (h : OwnS w base v l) : ∃ a c, v = .slice a l.length c ∧ StrsAt w a c l ∧ (a = none → c = 0) := by
  obtain ⟨a, c, rfl, hat⟩ := OwnS.at' h
  refine ⟨a, c, rfl, hat, fun e => ?_⟩
  subst e
  rcases h.row.2 with ⟨q, -⟩ | ⟨g, cap, cur, q, -⟩
  · injection q
  · cases q
theorem OwnA.at4 {w : World} {base : Nat} {v : Value} {l : List AdrV} (h : OwnA w base v l) (hs : ∀ x ∈ l, x.ip.size ≤ maxLen) : ∃ a c, v = .slice a l.length c ∧ AdrsAt w a c l ∧ (a = none → c = 0) := by
  obtain ⟨a, c, rfl, hat⟩ := OwnA.at' h hs
  refine ⟨a, c, rfl, hat, fun e => ?_⟩
  subst e
  rcases h.row.2 with ⟨q, -⟩ | ⟨g, cap, cur, q, -⟩
  · injection q
  · cases q
/-- Lists that are nil have no room. -/
structure Tidy (p : MgP) : Prop where
  tr : p.ta = none → p.tc = 0
  pe : p.pa = none → p.pc = 0
  ws : p.sa = none → p.sc = 0
/-- What Join answers. -/
def joinQ (x : Except Int MgV) (e : Ending) (w' : World) : Prop := match x with
  | .error k => e = .returned (.tuple #[mag0V, .int .i64 k])
  | .ok m => ∃ p, e = .returned (.tuple #[magVal m p, .int .i64 0]) ∧ MagAt w' m p ∧ Tidy p
theorem joinQ_no {k : Int} {e : Ending} {w' : World} (h : joinQ (.error k) e w') : e = .returned (.tuple #[mag0V, .int .i64 k]) := h
theorem joinQ_yes {m : MgV} {e : Ending} {w' : World} (h : joinQ (.ok m) e w') : ∃ p, e = .returned (.tuple #[magVal m p, .int .i64 0]) ∧ MagAt w' m p ∧ Tidy p := h
/-- What is asked of a region whose calls may stop the function: behind a panic, what the deferred calls want. -/
def panQ (Q : Exit → Act → World → Prop) (D : List Deferred) (i j : Nat) (p q : Value) (I : List PanicEntry → World → Prop) : Exit → Act → World → Prop
  | .normal, a, w => Q .normal a w
  | .panic c, a, w => a.defers = D ∧ a.tmps[i]? = some p ∧ a.tmps[j]? = some q ∧ I c w
  | _, _, _ => False
theorem panQ_ok {Q : Exit → Act → World → Prop} {D : List Deferred} {i j : Nat} {p q : Value} {I : List PanicEntry → World → Prop} {a : Act} {w : World} (h : Q .normal a w) : panQ Q D i j p q I .normal a w := h
theorem panQ_put {Q : Exit → Act → World → Prop} {D : List Deferred} {i j d : Nat} {p q v : Value} {I : List PanicEntry → World → Prop} (h1 : d ≠ i) (h2 : d ≠ j) : ∀ c a w, panQ Q D i j p q I (.panic c) (Act.put a (some d) v) w → panQ Q D i j p q I (.panic c) a w := by
  rintro c a w ⟨q1, q2, q3, q4⟩
  refine ⟨q1, ?_, ?_, q4⟩
  · simp only [Act.put, Array.getElem?_setIfInBounds_ne h1] at q2
    exact q2
  · simp only [Act.put, Array.getElem?_setIfInBounds_ne h2] at q3
    exact q3
theorem wp_region_panQ {P : Program} {ops : Array Oper} {Q : Exit → Act → World → Prop} {id : Nat} {a : Act} {w : World} (S : World → Prop) (D : List Deferred) (i j : Nat) (p q : Value) (I : List PanicEntry → World → Prop) (hm : P.follows .mixedOrders = true) (hS : S w.drew)
    (hpan : ∀ c a w, a.defers = D → a.tmps[i]? = some p → a.tmps[j]? = some q → I c w → Q (.panic c) a w)
    (h : S w.drew → wpAnyH P .any ops (panQ Q D i j p q I) S ops.size (Array.replicate ops.size false) a w.drew) : (Code.region id ops true).wp P Q a w :=
  wp_mono (wp_region_held_drew (S := S) hm hS h) (fun e a w q => by cases e <;> first | exact q | exact hpan _ _ _ q.1 q.2.1 q.2.2.1 q.2.2.2 | exact q.elim)
/-- Where the walk of Join stands. -/
structure JS (w0 W : World) (a b : MgV) (p q : MgP) (C O : Nat) (cm : Bool) (o : Array Value) : Prop where
  bA : Blk W w0.heap.size (magRow a p) 27
  bB : Blk W (w0.heap.size + 1) (magRow b q) 27
  bM : Blk W (w0.heap.size + 1 + 1) zeroMg 27
  bE : Blk W (w0.heap.size + 1 + 1 + 1) #[.int .i64 0] 28
  bC : Blk W C #[.bool cm] 4
  bO : Blk W O o 27
  hC : w0.heap.size + 4 ≤ C
  hO : C < O
  new : New w0 W
theorem JS.next {w0 W W' : World} {a b : MgV} {p q : MgP} {C O : Nat} {cm : Bool} {o : Array Value} (h : JS w0 W a b p q C O cm o) (n : New W W') : JS w0 W' a b p q C O cm o :=
  ⟨New.blk n h.bA, New.blk n h.bB, New.blk n h.bM, New.blk n h.bE, New.blk n h.bC, New.blk n h.bO, h.hC, h.hO, h.new.trans n⟩
theorem JS.set {w0 W : World} {a b : MgV} {p q : MgP} {C O : Nat} {cm : Bool} {o : Array Value} (h : JS w0 W a b p q C O cm o) (i : Nat) (v : Value) : JS w0 (W.setCell ⟨O, i, none⟩ v) a b p q C O cm (o.setIfInBounds i v) := by
  have m : Mod (fun j => j = O) W (W.setCell ⟨O, i, none⟩ v) := (Mod.refl _ _).set _ _ (.inl rfl)
  have h1 := h.hC; have h2 := h.hO
  exact ⟨m.blk h.bA (by omega), m.blk h.bB (by omega), m.blk h.bM (by omega), m.blk h.bE (by omega), m.blk h.bC (by omega), h.bO.set i v, h.hC, h.hO, h.new.trans' m (fun j q1 q2 => by omega)⟩
theorem JS.common {w0 W W' : World} {a b : MgV} {p q : MgP} {C O : Nat} {cm c2 : Bool} {o : Array Value} (h : JS w0 W a b p q C O cm o) (hb : Blk W' C #[.bool c2] 4) (m : Mod (fun j => j = C) W W') : JS w0 W' a b p q C O c2 o := by
  have h1 := h.hC; have h2 := h.hO
  exact ⟨m.blk h.bA (by omega), m.blk h.bB (by omega), m.blk h.bM (by omega), m.blk h.bE (by omega), hb, m.blk h.bO (by omega), h.hC, h.hO, h.new.trans' m (fun j q1 q2 => by omega)⟩
theorem mj_results (tmps : Array Value) (w : World) (p q : Nat) (m0 m1 m2 m3 m4 m5 m6 : Value) (c : Int) (hp : Blk w p #[m0, m1, m2, m3, m4, m5, m6] 27) (hr : Blk w q #[.int .i64 c] 28)
    (h2 : tmps[4]? = some (.pointer (some ⟨p, 0, none⟩))) (h3 : tmps[5]? = some (.pointer (some ⟨q, 0, none⟩))) :
    (results Tryz.f13 tmps).run Tryz.prog w = .ok (.tuple #[.agg #[m0, m1, m2, m3, m4, m5, m6], .int .i64 c]) w := by
  have p0 := hp.cellv 0 rfl; have p1 := hp.cellv 1 rfl; have p2 := hp.cellv 2 rfl; have p3 := hp.cellv 3 rfl; have p4 := hp.cellv 4 rfl; have p5 := hp.cellv 5 rfl; have p6 := hp.cellv 6 rfl
  obtain ⟨r1, -, -⟩ := hr.one
  have h2' : tmps[4]?.getD undef = .pointer (some ⟨p, 0, none⟩) := by rw [h2]; rfl
  have h3' : tmps[5]?.getD undef = .pointer (some ⟨q, 0, none⟩) := by rw [h3]; rfl
  simp [results, Tryz.results13, h2', h3', asAddr, go_sem, p0, p1, p2, p3, p4, p5, p6, r1, Result.andThen]
/-- What a panic of Join ends in. -/
theorem join_caught {w0 W : World} {X : Except Int MgV} {k : Int} {tmps : Array Value} (hX : X = .error k)
    (hM : Blk W (w0.heap.size + 1 + 1) zeroMg 27) (hE : Blk W (w0.heap.size + 1 + 1 + 1) #[.int .i64 0] 28) (hn : New w0 W)
    (h4 : tmps[4]? = some (.pointer (some ⟨w0.heap.size + 1 + 1, 0, none⟩))) (h5 : tmps[5]? = some (.pointer (some ⟨w0.heap.size + 1 + 1 + 1, 0, none⟩))) :
    Leaves Tryz.prog Tryz.f13 tmps (fun e w' => joinQ X e w' ∧ New w0 w') [{ target := .fn (.func 21) #[], args := #[.pointer (some ⟨w0.heap.size + 1 + 1 + 1, 0, none⟩)] }] (.panicking (toldM k)) W := by
  refine leaves_cons (f := 21) (args := #[.pointer (some ⟨w0.heap.size + 1 + 1 + 1, 0, none⟩)]) (by simp) (by simp [go_sem]) ?_
  refine (caught_told (w0.heap.size + 1 + 1 + 1) k _ hE).mono ?_
  rintro e u' w9 ⟨rfl, rfl, bq, m9⟩
  have A9 := m9.blk hM (by omega)
  refine ⟨_, mj_results _ _ (w0.heap.size + 1 + 1) (w0.heap.size + 1 + 1 + 1) _ _ _ _ _ _ _ _ A9 bq h4 h5, by rw [hX]; rfl, ?_⟩
  exact hn.trans' m9 (fun j h1 h2 => by omega)
theorem JS.held {w0 W : World} {a b : MgV} {p q : MgP} {C O : Nat} {cm : Bool} {o : Array Value} (h : JS w0 W a b p q C O cm o) :
    W.cell? ⟨w0.heap.size, 0, none⟩ = some (.string a.old) ∧ W.cell? ⟨w0.heap.size + 1, 0, none⟩ = some (.string b.old) ∧ W.cell? ⟨w0.heap.size, 1, none⟩ = some (.string a.new) ∧ W.cell? ⟨w0.heap.size + 1, 1, none⟩ = some (.string b.new) :=
  ⟨h.bA.cellv 0 rfl, h.bB.cellv 0 rfl, h.bA.cellv 1 rfl, h.bB.cellv 1 rfl⟩
theorem JS.drew {w0 W : World} {a b : MgV} {p q : MgP} {C O : Nat} {cm : Bool} {o : Array Value} (h : JS w0 W a b p q C O cm o) : JS w0 W.drew a b p q C O cm o := h.next (Mod.refl _ _).drew
theorem JS.row {w0 W : World} {a b : MgV} {p q : MgP} {C O : Nat} {cm : Bool} {o o' : Array Value} (h : JS w0 W a b p q C O cm o) (e : o = o') : JS w0 W a b p q C O cm o' := e ▸ h
/-- The lists that Join has made so far. -/
structure JL (W : World) (D : Nat) (vt vp vs vo : Value) (T : List ByteArray) (P : List AdrV) (S : List ByteArray) (O : List (Int × Int)) : Prop where
  t : OwnS W D vt T
  p : OwnA W D vp P
  s : OwnS W D vs S
  o : OwnR W D vo O
theorem JL.mod {W W' : World} {D : Nat} {vt vp vs vo : Value} {T : List ByteArray} {P : List AdrV} {S : List ByteArray} {O : List (Int × Int)} (h : JL W D vt vp vs vo T P S O) (m : Mod (fun j => j < D) W W') : JL W' D vt vp vs vo T P S O :=
  ⟨h.t.mod m (fun k q => by have := (h.t.block q).1; omega), h.p.mod m (fun k q => by have := (h.p.block q).1; omega), h.s.mod m (fun k q => by have := (h.s.block q).1; omega), h.o.mod m (fun k h1 h2 q => by omega)⟩
theorem JL.next {W W' : World} {D : Nat} {vt vp vs vo : Value} {T : List ByteArray} {P : List AdrV} {S : List ByteArray} {O : List (Int × Int)} (h : JL W D vt vp vs vo T P S O) (n : New W W') : JL W' D vt vp vs vo T P S O := h.mod (New.mod n)
theorem JL.zero (W : World) (D : Nat) : JL W D (.slice none 0 0) (.slice none 0 0) (.slice none 0 0) (.slice none 0 0) [] [] [] [] := ⟨OwnS.nil _ _, OwnA.nil _ _, OwnS.nil _ _, OwnR.nil _ _⟩
theorem JL.at' {W : World} {D : Nat} {vt vp vs vo : Value} {m : MgV} (h : JL W D vt vp vs vo m.tr m.pe m.ws m.on) (hs : ∀ x ∈ m.pe, x.ip.size ≤ maxLen) :
    ∃ p : MgP, (.agg #[.string m.old, .string m.new, .string m.name, vt, vp, vs, vo] : Value) = magVal m p ∧ MagAt W m p ∧ Tidy p := by
  obtain ⟨ta, tc, rfl, h1, g1⟩ := h.t.at4
  obtain ⟨pa, pc, rfl, h2, g2⟩ := h.p.at4 hs
  obtain ⟨sa, sc, rfl, h3, g3⟩ := h.s.at4
  obtain ⟨oa, oc, rfl, h4⟩ := h.o.at2
  exact ⟨⟨ta, tc, pa, pc, sa, sc, oa, oc⟩, rfl, ⟨h1, h2, h3, h4⟩, ⟨g1, g2, g3⟩⟩
theorem setMod {W : World} {O D i : Nat} {v : Value} (h : O < D) : Mod (fun j => j < D) W (W.setCell ⟨O, i, none⟩ v) := (Mod.refl _ _).set _ _ (.inl h)
/-- Join's end: what it answers. -/
theorem join_end {w0 W : World} {X : Except Int MgV} {m : MgV} {vt vp vs vo : Value} {D : Nat} {tmps : Array Value} (hX : X = .ok m)
    (hM : Blk W (w0.heap.size + 1 + 1) #[.string m.old, .string m.new, .string m.name, vt, vp, vs, vo] 27) (hE : Blk W (w0.heap.size + 1 + 1 + 1) #[.int .i64 0] 28) (hn : New w0 W)
    (hL : JL W D vt vp vs vo m.tr m.pe m.ws m.on) (hs : ∀ x ∈ m.pe, x.ip.size ≤ maxLen)
    (h4 : tmps[4]? = some (.pointer (some ⟨w0.heap.size + 1 + 1, 0, none⟩))) (h5 : tmps[5]? = some (.pointer (some ⟨w0.heap.size + 1 + 1 + 1, 0, none⟩))) :
    Leaves Tryz.prog Tryz.f13 tmps (fun e w' => joinQ X e w' ∧ New w0 w') [{ target := .fn (.func 21) #[], args := #[.pointer (some ⟨w0.heap.size + 1 + 1 + 1, 0, none⟩)] }] .returning W := by
  refine leaves_cons (f := 21) (args := #[.pointer (some ⟨w0.heap.size + 1 + 1 + 1, 0, none⟩)]) (by simp) (by simp [go_sem]) ?_
  refine (caught_idle ⟨w0.heap.size + 1 + 1 + 1, 0, none⟩ _).mono ?_
  rintro e u' w9 ⟨rfl, rfl, rfl⟩
  obtain ⟨p, hp, ha, ht⟩ := hL.at' hs
  refine ⟨_, mj_results _ _ (w0.heap.size + 1 + 1) (w0.heap.size + 1 + 1 + 1) _ _ _ _ _ _ _ _ hM hE h4 h5, ?_, hn⟩
  rw [hX]
  exact ⟨p, by rw [hp], ha, ht⟩
end Go.Proofs.YtbgmkplpolgebaaGreatDoor
