/-
  Several texts in one, in their build order. The laws' own guard (coveylaw30.light): few texts, pieces and acts, within bounds. Conditions: the lists lie as told. What a row over lists of booleans, numbers and acts opens. Plain facts over the program. No condition.
-/
import Derived.Test.YtnhgichiedninaaGreatDoorM7
import Derived.Test.YtnhgichiedninaaGreatDoorM3
import Derived.Test.YtnhgichiedninaaGreatDoorM5
import Derived.Deep.Grids
namespace Go.Proofs.YtnhgichiedninaaGreatDoor
set_option linter.unusedSimpArgs false
set_option linter.unusedVariables false
open Go.RowKit

structure NumsAt (w : World) (a : Option Addr) (c : Nat) (xs : List Int) : Prop where
  room : xs.length ≤ c
  cap : c ≤ maxLen
  at' : xs = [] ∨ ∃ b o, a = some ⟨b, o, none⟩ ∧ b < w.heap.size ∧ ∀ (i : Nat) x, xs[i]? = some x → w.cell? ⟨b, o + i, none⟩ = some (.int .i64 x)
theorem NumsAt.new {w w' : World} {a : Option Addr} {c : Nat} {xs : List Int} (h : NumsAt w a c xs) (hn : New w w') : NumsAt w' a c xs := by
  refine ⟨h.room, h.cap, ?_⟩
  rcases h.at' with h | ⟨b, o, e, hb, hc⟩
  · exact .inl h
  · exact .inr ⟨b, o, e, Nat.lt_of_lt_of_le hb hn.size, fun i s hs => hn.cellv (hc i s hs)⟩
theorem NumsAt.get {w : World} {a : Option Addr} {c : Nat} {xs : List Int} (h : NumsAt w a c xs) (hz : 0 < xs.length) : ∃ b o, a = some ⟨b, o, none⟩ ∧ b < w.heap.size ∧ ∀ (i : Nat) (hi : i < xs.length), w.cell? ⟨b, o + i, none⟩ = some (.int .i64 xs[i]) := by
  rcases h.at' with h | ⟨b, o, e, hb, hc⟩
  · subst h; simp at hz
  · exact ⟨b, o, e, hb, fun i hi => hc i _ (List.getElem?_eq_getElem hi)⟩
structure ActV where
  kind : Int
  later : Int
  web : Int
  piece : Int
  flag : Bool
structure ActsAt (w : World) (a : Option Addr) (c : Nat) (l : List ActV) : Prop where
  room : l.length ≤ c
  cap : c ≤ maxLen
  at' : l = [] ∨ ∃ b o, a = some ⟨b, o, none⟩ ∧ b < w.heap.size ∧ ∀ (i : Nat) x, l[i]? = some x → w.cell? ⟨b, o + i * 5, none⟩ = some (.int .i64 x.kind) ∧ w.cell? ⟨b, o + i * 5 + 1, none⟩ = some (.int .i64 x.later) ∧ w.cell? ⟨b, o + i * 5 + 2, none⟩ = some (.int .i64 x.web) ∧ w.cell? ⟨b, o + i * 5 + 3, none⟩ = some (.int .i64 x.piece) ∧ w.cell? ⟨b, o + i * 5 + 4, none⟩ = some (.bool x.flag)
theorem ActsAt.new {w w' : World} {a : Option Addr} {c : Nat} {l : List ActV} (h : ActsAt w a c l) (hn : New w w') : ActsAt w' a c l := by
  refine ⟨h.room, h.cap, ?_⟩
  rcases h.at' with h | ⟨b, o, e, hb, hc⟩
  · exact .inl h
  · exact .inr ⟨b, o, e, Nat.lt_of_lt_of_le hb hn.size, fun i s hs => ⟨hn.cellv (hc i s hs).1, hn.cellv (hc i s hs).2.1, hn.cellv (hc i s hs).2.2.1, hn.cellv (hc i s hs).2.2.2.1, hn.cellv (hc i s hs).2.2.2.2⟩⟩
theorem ActsAt.get {w : World} {a : Option Addr} {c : Nat} {l : List ActV} (h : ActsAt w a c l) (hz : 0 < l.length) : ∃ b o, a = some ⟨b, o, none⟩ ∧ b < w.heap.size ∧ ∀ (i : Nat) (hi : i < l.length), w.cell? ⟨b, o + i * 5, none⟩ = some (.int .i64 l[i].kind) ∧ w.cell? ⟨b, o + i * 5 + 1, none⟩ = some (.int .i64 l[i].later) ∧ w.cell? ⟨b, o + i * 5 + 2, none⟩ = some (.int .i64 l[i].web) ∧ w.cell? ⟨b, o + i * 5 + 3, none⟩ = some (.int .i64 l[i].piece) ∧ w.cell? ⟨b, o + i * 5 + 4, none⟩ = some (.bool l[i].flag) := by
  rcases h.at' with h | ⟨b, o, e, hb, hc⟩
  · subst h; simp at hz
  · exact ⟨b, o, e, hb, fun i hi => hc i _ (List.getElem?_eq_getElem hi)⟩
theorem ActsAt.nil (w : World) : ActsAt w none 0 [] := ⟨by simp, by simp [maxLen], .inl rfl⟩
def ActV.ok (x : ActV) : Bool := !(decide (10000000 < x.later)) && !(decide (x.later < -10000000))
def lightB (p : List ByteArray) (W : List Bool) (l : List ActV) : Bool := decide (p.length ≤ 25) && decide (W.length ≤ 60) && decide (l.length ≤ 120) && p.all (fun s => decide (s.size ≤ 300)) && l.all ActV.ok
theorem light_facts {p : List ByteArray} {W : List Bool} {l : List ActV} (h : lightB p W l = true) : p.length ≤ 25 ∧ W.length ≤ 60 ∧ l.length ≤ 120 ∧ (∀ s ∈ p, s.size ≤ 300) ∧ ∀ x ∈ l, -10000000 ≤ x.later ∧ x.later ≤ 10000000 := by
  unfold lightB ActV.ok at h
  simp only [Bool.and_eq_true, decide_eq_true_eq, List.all_eq_true, Bool.not_eq_true', decide_eq_false_iff_not] at h
  obtain ⟨⟨⟨⟨h1, h2⟩, h3⟩, h4⟩, h5⟩ := h
  exact ⟨h1, h2, h3, h4, fun x hx => by have := h5 x hx; omega⟩
theorem allL_upto {α : Type} {p : List α} {f : α → Bool} {k : Nat} (hk : ¬ k < p.length) (h : ∀ (j : Nat) (hj : j < p.length), j < k → f p[j] = true) : p.all f = true := by
  rw [List.all_eq_true]
  intro x hx
  obtain ⟨j, hj, rfl⟩ := List.mem_iff_getElem.1 hx
  exact h j hj (by omega)
theorem allL_not {α : Type} {p : List α} {f : α → Bool} {k : Nat} (hk : k < p.length) (h : f p[k] = false) : p.all f = false := by
  rw [List.all_eq_false]
  exact ⟨_, List.getElem_mem hk, by simp [h]⟩
set_option maxRecDepth 100000 in
set_option maxHeartbeats 4000000 in
theorem light_any (a wa la : Option Addr) (c wc lc : Nat) (p : List ByteArray) (W : List Bool) (l : List ActV) (w : World) (h : StrsAt w a c p) (hw : BoolsAt w wa wc W) (hl : ActsAt w la lc l) :
    Calls Tryz.prog 6 #[.slice a p.length c, .slice wa W.length wc, .slice la l.length lc] w fun e w' => e = .returned (.bool (lightB p W l)) ∧ New w w' := by
  have hr := h.room; have hc := h.cap; have hwr := hw.room; have hwc := hw.cap; have hlr := hl.room; have hlc := hl.cap
  unfold maxLen at hc hwc hlc
  obtain ⟨R, hR⟩ : ∃ R, R = lightB p W l := ⟨_, rfl⟩
  rw [← hR]
  unfold lightB at hR
  have HP := hid h; have HL := hid hl
  clear h hw hl
  by_cases g1 : 25 < p.length
  · rw [decide_eq_false (by omega)] at hR
    have HR := hid (show R = false by rw [hR]; simp)
    clear hR
    go_enter Tryz.func6, Tryz.ntmps6
    go_wp2
    go_ret
    exact ⟨ret_bool HR.out.symm, Mod.refl _ _⟩
  by_cases g2 : 60 < W.length
  · rw [show decide (W.length ≤ 60) = false from decide_eq_false (by omega)] at hR
    have HR := hid (show R = false by rw [hR]; simp)
    clear hR
    go_enter Tryz.func6, Tryz.ntmps6
    go_wp2
    go_ret
    exact ⟨ret_bool HR.out.symm, Mod.refl _ _⟩
  by_cases g3 : 120 < l.length
  · rw [show decide (l.length ≤ 120) = false from decide_eq_false (by omega)] at hR
    have HR := hid (show R = false by rw [hR]; simp)
    clear hR
    go_enter Tryz.func6, Tryz.ntmps6
    go_wp2
    go_ret
    exact ⟨ret_bool HR.out.symm, Mod.refl _ _⟩
  rw [decide_eq_true (by omega), decide_eq_true (by omega), decide_eq_true (by omega)] at hR
  have HR := hid (show R = (p.all (fun s => decide (s.size ≤ 300)) && l.all ActV.ok) by rw [hR]; simp)
  clear hR
  go_enter Tryz.func6, Tryz.ntmps6
  go_wp2
  go_loopw [26] (fun x wr => ∃ j : Nat, x = .int .i64 j ∧ j ≤ p.length ∧ (∀ (i : Nat) (hi : i < p.length), i < j → decide (p[i].size ≤ 300) = true) ∧ wr = w) (fun x _ => p.length - (intOf x).toNat)
  case atStart => exact ⟨0, rfl, by omega, by intros; omega, rfl⟩
  case round =>
    obtain ⟨j, rfl, hj, hb, rfl⟩ := hrel
    have HB := hid hb
    clear hb
    by_cases hlt : j < p.length
    · obtain ⟨b1, o1, rfl, hb1, hc1⟩ := HP.out.get (by omega)
      have g1 := hc1 j hlt
      have hsz := HP.out.small _ (List.getElem_mem hlt)
      unfold maxLen at hsz
      clear hc1
      by_cases hs : 300 < p[j].size
      · have HE := hid (allL_not (f := fun s : ByteArray => decide (s.size ≤ 300)) hlt (decide_eq_false (by omega)))
        go_wp2
        go_ret
        exact ⟨ret_bool (by rw [HR.out, HE.out]; rfl), Mod.refl _ _⟩
      · have HE := hid (show decide (p[j].size ≤ 300) = true from decide_eq_true (by omega))
        go_wp2
        refine ⟨⟨j + 1, by simp, by omega, fun i hi h => ?_, trivial⟩, by simp [intOf]; omega⟩
        rcases Nat.lt_succ_iff_lt_or_eq.1 h with h | h
        · exact HB.out i hi h
        · subst h; exact HE.out
    · have HE := hid (allL_upto (f := fun s : ByteArray => decide (s.size ≤ 300)) hlt (fun i hi h => HB.out i hi h))
      clear HB
      go_wp2
      go_loopw [36] (fun x w' => ∃ j : Nat, x = .int .i64 j ∧ j ≤ l.length ∧ (∀ (i : Nat) (hi : i < l.length), i < j → l[i].ok = true) ∧ New wr w') (fun x _ => l.length - (intOf x).toNat)
      case atStart => exact ⟨0, rfl, by omega, by intros; omega, Mod.refl _ _⟩
      case round =>
        obtain ⟨i, rfl, hi, hb, hn⟩ := hrel
        have HB := hid hb; have HN := hid hn
        clear hb
        by_cases hlt2 : i < l.length
        · obtain ⟨b1, o1, rfl, hb1, hc1⟩ := HL.out.get (by omega)
          obtain ⟨g0, g1, g2, g3, g4⟩ := hc1 i hlt2
          have g0 := hn.cellv g0; have g1 := hn.cellv g1; have g2 := hn.cellv g2; have g3 := hn.cellv g3; have g4 := hn.cellv g4
          obtain ⟨x, hx⟩ : ∃ x, x = l[i] := ⟨_, rfl⟩
          rw [← hx] at g0 g1 g2 g3 g4
          have HX := hid hx
          clear hc1 hn hx
          by_cases hs : 10000000 < x.later
          · have HE2 := hid (show l.all ActV.ok = false from allL_not hlt2 (by rw [← HX.out]; unfold ActV.ok; rw [decide_eq_true hs]; rfl))
            go_wp2
            go_ret
            exact ⟨ret_bool (by rw [HR.out, HE2.out]; simp), HN.out.alloc _⟩
          · by_cases hs2 : x.later < -10000000
            · have HE2 := hid (show l.all ActV.ok = false from allL_not hlt2 (by rw [← HX.out]; unfold ActV.ok; rw [decide_eq_true hs2]; simp))
              go_wp2
              go_ret
              exact ⟨ret_bool (by rw [HR.out, HE2.out]; simp), HN.out.alloc _⟩
            · have HE2 := hid (show x.ok = true by unfold ActV.ok; rw [decide_eq_false hs, decide_eq_false hs2]; rfl)
              go_wp2
              refine ⟨⟨i + 1, by simp, by omega, fun k hk h => ?_, HN.out.alloc _⟩, by simp [intOf]; omega⟩
              rcases Nat.lt_succ_iff_lt_or_eq.1 h with h | h
              · exact HB.out k hk h
              · subst h; rw [← HX.out]; exact HE2.out
        · have HE2 := hid (show l.all ActV.ok = true from allL_upto hlt2 (fun i hi h => HB.out i hi h))
          clear hn
          go_wp2
          go_ret
          exact ⟨ret_bool (by rw [HR.out, HE.out, HE2.out]; rfl), HN.out⟩
end Go.Proofs.YtnhgichiedninaaGreatDoor

namespace Go.Proofs.YtnhgichiedninaaGreatDoor
set_option linter.unusedSimpArgs false
set_option linter.unusedVariables false
open Go.ChangeShapes Go.WideShapes Go.ChangeAt Go.RowKit Go.Deep

section
variable {H : Type} {enc : TypeId × Value → H} {w : World} {base : Nat} {held : Bool}
theorem open_boolsX {fuel : Nat} {cs : List Value} {x : DataW H × List MemPlace} (h : DataW.trod enc Tryz.prog w base (fun _ => true) held fuel 23 cs = some x) : ∃ a c l, cs = [.slice a l.length c] ∧ BoolsAt w a c l := by
  rcases open_bools Tryz.underlying23 Tryz.underlying4 (by kernel_rfl) h with ⟨hcs, -⟩ | ⟨a, len, cap, B, hcs, -, hl, hc, -, hx⟩
  · exact ⟨none, 0, [], hcs, by simp, by simp [maxLen], .inl rfl⟩
  · refine ⟨some a, cap, (List.range len).map B, by simpa using hcs, by simpa using hl, hc, ?_⟩
    by_cases hz : len = 0
    · exact .inl (by simp [hz])
    · have h0 := hx 0 (by omega)
      obtain ⟨b, o, sp⟩ := a
      have hs : sp = none := cell_spot h0
      subst hs
      refine .inr ⟨b, o, rfl, World.block_lt_of_cell? _ _ h0, fun i y hy => ?_⟩
      rw [List.getElem?_map] at hy
      obtain ⟨j, hj, rfl⟩ := Option.map_eq_some_iff.1 hy
      obtain ⟨hlt, e⟩ := List.getElem?_eq_some_iff.1 hj
      simp at hlt e
      subst e
      have := hx i (by omega)
      rw [add_none] at this
      exact this
theorem open_numsX {spare : Nat → Bool} {fuel : Nat} {cs : List Value} {x : DataW H × List MemPlace} (h : DataW.trod enc Tryz.prog w base spare held fuel 24 cs = some x) : ∃ a c l, cs = [.slice a l.length c] ∧ NumsAt w a c l := by
  rcases open_ints Tryz.underlying24 Tryz.underlying3 (by kernel_rfl) h with ⟨hcs, -⟩ | ⟨a, len, cap, zs, hcs, -, hl, hc, hm, -, hx, -⟩
  · exact ⟨none, 0, [], hcs, by simp, by simp [maxLen], .inl rfl⟩
  · have hlm : len ≤ zs.length := by rw [hm]; split <;> omega
    have htl : (zs.take len).length = len := by simp; omega
    refine ⟨some a, cap, zs.take len, by rw [htl]; exact hcs, by rw [htl]; exact hl, hc, ?_⟩
    by_cases hz : len = 0
    · exact .inl (by simp [hz])
    · have h0 := hx 0 (by omega)
      obtain ⟨b, o, sp⟩ := a
      have hs : sp = none := cell_spot h0
      subst hs
      refine .inr ⟨b, o, rfl, World.block_lt_of_cell? _ _ h0, fun i y hy => ?_⟩
      rw [List.getElem?_take] at hy
      split at hy
      · have hi := (List.getElem?_eq_some_iff.1 hy).1
        have e := (List.getElem?_eq_some_iff.1 hy).2
        have := hx i hi
        rw [add_none] at this
        rw [this]
        simp [List.getD, List.getElem?_eq_getElem hi, e]
      · cases hy
theorem open_actsX {spare : Nat → Bool} {fuel : Nat} {cs : List Value} {x : DataW H × List MemPlace} (h : DataW.trod enc Tryz.prog w base spare held fuel 43 cs = some x) : ∃ a c l, cs = [.slice a l.length c] ∧ ActsAt w a c l := by
  rcases open_slice_fields Tryz.underlying43 Tryz.underlying48 (by kernel_rfl) (by kernel_rfl) h with ⟨hcs, _⟩ | ⟨a, len, cap, m, D, Pl, hcs, _, hl, hmx, hmm, hxx, hcell⟩
  · exact ⟨none, 0, [], by simpa using hcs, ActsAt.nil w⟩
  · have hlm : len ≤ m := by rw [hmm]; split <;> omega
    have hc : ∀ i, i < len → ∃ f : ActV, w.cell? (a.add (i * 5)) = some (.int .i64 f.kind) ∧ w.cell? (a.add (i * 5 + 1)) = some (.int .i64 f.later) ∧ w.cell? (a.add (i * 5 + 2)) = some (.int .i64 f.web) ∧ w.cell? (a.add (i * 5 + 3)) = some (.int .i64 f.piece) ∧ w.cell? (a.add (i * 5 + 4)) = some (.bool f.flag) := by
      intro i hi
      obtain ⟨ys, n, hD, _, _, hfs⟩ := hcell i (by omega)
      obtain ⟨u0, y0, e0, -, t0⟩ := hfs 0 _ rfl
      obtain ⟨u1, y1, e1, -, t1⟩ := hfs 1 _ rfl
      obtain ⟨u2, y2, e2, -, t2⟩ := hfs 2 _ rfl
      obtain ⟨u3, y3, e3, -, t3⟩ := hfs 3 _ rfl
      obtain ⟨u4, y4, e4, -, t4⟩ := hfs 4 _ rfl
      obtain ⟨x0, c0, -⟩ := DataW.trod_int Tryz.underlying3 t0
      obtain ⟨x1, c1, -⟩ := DataW.trod_int Tryz.underlying3 t1
      obtain ⟨x2, c2, -⟩ := DataW.trod_int Tryz.underlying3 t2
      obtain ⟨x3, c3, -⟩ := DataW.trod_int Tryz.underlying3 t3
      obtain ⟨x4, c4, -⟩ := DataW.trod_bool Tryz.underlying4 t4
      simp at c0 c1 c2 c3 c4
      subst c0 c1 c2 c3 c4
      exact ⟨⟨x0, x1, x2, x3, x4⟩, e0, e1, e2, e3, e4⟩
    obtain ⟨L, hL, hp⟩ := list_of len hc
    subst hL
    refine ⟨some a, cap, L, hcs, hl, hmx, ?_⟩
    by_cases hz : L.length = 0
    · exact .inl (List.eq_nil_of_length_eq_zero hz)
    · obtain ⟨f, e0, -⟩ := hc 0 (by omega)
      have hs := cell_spot e0
      obtain ⟨b, o, sp⟩ := a
      have hs' : sp = none := hs
      subst hs'
      refine .inr ⟨b, o, rfl, World.block_lt_of_cell? _ _ e0, fun i f hf => ?_⟩
      obtain ⟨q0, q1, q2, q3, q4⟩ := hp i f hf
      rw [add_none] at q0 q1 q2 q3 q4
      exact ⟨q0, by simpa [Nat.add_assoc] using q1, by simpa [Nat.add_assoc] using q2, by simpa [Nat.add_assoc] using q3, by simpa [Nat.add_assoc] using q4⟩
end
end Go.Proofs.YtnhgichiedninaaGreatDoor
