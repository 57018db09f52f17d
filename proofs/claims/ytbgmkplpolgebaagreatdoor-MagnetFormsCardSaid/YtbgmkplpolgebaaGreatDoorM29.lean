/-
  Several texts in one, in their build order. How a magnet lies in memory. Plain facts on worlds. No condition. The walks of within (the reference) and slices.Equal at texts. Condition: both slices hold texts. Whether two lists are one: texts (the reference), slices.Equal of addresses and of runs. Condition: the lists lie as told.
-/
import Derived.Test.YtbgmkplpolgebaaGreatDoorM28
import Derived.Test.YtbgmkplpolgebaaGreatDoorM2
namespace Go.Proofs.YtbgmkplpolgebaaGreatDoor
set_option linter.unusedSimpArgs false
set_option linter.unusedVariables false
open Go.RowKit Go.Shelf

/-- The slice of length l.length and capacity c at a holds the addresses l. -/
structure AdrsAt (w : World) (a : Option Addr) (c : Nat) (l : List AdrV) : Prop where
  room : l.length ≤ c
  cap : c ≤ maxLen
  small : ∀ x ∈ l, x.ip.size ≤ maxLen
  at' : l = [] ∨ ∃ b o, a = some ⟨b, o, none⟩ ∧ b < w.heap.size ∧ ∀ (i : Nat) x, l[i]? = some x → w.cell? ⟨b, o + i * 3, none⟩ = some (.int .i64 x.fam) ∧ w.cell? ⟨b, o + i * 3 + 1, none⟩ = some (.string x.ip) ∧ w.cell? ⟨b, o + i * 3 + 2, none⟩ = some (.int .i64 x.port)
theorem AdrsAt.new {w w' : World} {a : Option Addr} {c : Nat} {l : List AdrV} (h : AdrsAt w a c l) (hn : New w w') : AdrsAt w' a c l := by
  refine ⟨h.room, h.cap, h.small, ?_⟩
  rcases h.at' with h | ⟨b, o, e, hb, hc⟩
  · exact .inl h
  · exact .inr ⟨b, o, e, Nat.lt_of_lt_of_le hb hn.size, fun i x hx => ⟨hn.cellv (hc i x hx).1, hn.cellv (hc i x hx).2.1, hn.cellv (hc i x hx).2.2⟩⟩
theorem AdrsAt.get {w : World} {a : Option Addr} {c : Nat} {l : List AdrV} (h : AdrsAt w a c l) (hp : 0 < l.length) : ∃ b o, a = some ⟨b, o, none⟩ ∧ b < w.heap.size ∧ ∀ (i : Nat) (hi : i < l.length), w.cell? ⟨b, o + i * 3, none⟩ = some (.int .i64 l[i].fam) ∧ w.cell? ⟨b, o + i * 3 + 1, none⟩ = some (.string l[i].ip) ∧ w.cell? ⟨b, o + i * 3 + 2, none⟩ = some (.int .i64 l[i].port) := by
  rcases h.at' with h | ⟨b, o, e, hb, hc⟩
  · simp [h] at hp
  · exact ⟨b, o, e, hb, fun i hi => hc i _ (List.getElem?_eq_getElem hi)⟩
/-- .. of runs. -/
structure RnsAt (w : World) (a : Option Addr) (c : Nat) (l : List (Int × Int)) : Prop where
  room : l.length ≤ c
  cap : c ≤ maxLen
  at' : l = [] ∨ ∃ b o, a = some ⟨b, o, none⟩ ∧ b < w.heap.size ∧ ∀ (i : Nat) x, l[i]? = some x → w.cell? ⟨b, o + i * 2, none⟩ = some (.int .i64 x.1) ∧ w.cell? ⟨b, o + i * 2 + 1, none⟩ = some (.int .i64 x.2)
theorem RnsAt.new {w w' : World} {a : Option Addr} {c : Nat} {l : List (Int × Int)} (h : RnsAt w a c l) (hn : New w w') : RnsAt w' a c l := by
  refine ⟨h.room, h.cap, ?_⟩
  rcases h.at' with h | ⟨b, o, e, hb, hc⟩
  · exact .inl h
  · exact .inr ⟨b, o, e, Nat.lt_of_lt_of_le hb hn.size, fun i x hx => ⟨hn.cellv (hc i x hx).1, hn.cellv (hc i x hx).2⟩⟩
theorem RnsAt.get {w : World} {a : Option Addr} {c : Nat} {l : List (Int × Int)} (h : RnsAt w a c l) (hp : 0 < l.length) : ∃ b o, a = some ⟨b, o, none⟩ ∧ b < w.heap.size ∧ ∀ (i : Nat) (hi : i < l.length), w.cell? ⟨b, o + i * 2, none⟩ = some (.int .i64 l[i].1) ∧ w.cell? ⟨b, o + i * 2 + 1, none⟩ = some (.int .i64 l[i].2) := by
  rcases h.at' with h | ⟨b, o, e, hb, hc⟩
  · simp [h] at hp
  · exact ⟨b, o, e, hb, fun i hi => hc i _ (List.getElem?_eq_getElem hi)⟩
theorem RnsAt.runs {w : World} {a : Option Addr} {c : Nat} {l : List (Int × Int)} (h : RnsAt w a c l) : RunsAt w (.slice a l.length c) l := by
  refine ⟨a, c, rfl, h.room, h.cap, ?_⟩
  rcases h.at' with h | ⟨b, o, e, hb, hc⟩
  · exact .inl h
  · exact .inr ⟨b, o, e, hb, fun i hi => hc i _ (List.getElem?_eq_getElem hi)⟩
/-- Own lists read. -/
theorem OwnS.at' {w : World} {base : Nat} {v : Value} {l : List ByteArray} (h : OwnS w base v l) : ∃ a c, v = .slice a l.length c ∧ StrsAt w a c l := by
  have h0 := h.row
  rcases h.row.2 with ⟨rfl, hn⟩ | ⟨g, cap, cur, rfl, hbg, hg, hnc, hcm, hcs, htake⟩
  · have : l = [] := List.eq_nil_of_length_eq_zero hn
    subst this
    exact ⟨none, 0, rfl, by simp, by simp [maxLen], by simp, .inl rfl⟩
  · refine ⟨_, cap, rfl, hnc, hcm, h.small, .inr ⟨g, 0, rfl, (Array.getElem?_eq_some_iff.1 hg).1, fun i s hs => ?_⟩⟩
    have h1 := World.ownsRow.cells (g := g) h0 rfl i (.string s) (by rw [List.getElem?_map, hs]; rfl)
    rw [addrN] at h1
    exact h1
theorem OwnA.at' {w : World} {base : Nat} {v : Value} {l : List AdrV} (h : OwnA w base v l) (hs : ∀ x ∈ l, x.ip.size ≤ maxLen) : ∃ a c, v = .slice a l.length c ∧ AdrsAt w a c l := by
  have h0 := h.row
  rcases h.row.2 with ⟨rfl, hn⟩ | ⟨g, cap, cur, rfl, hbg, hg, hnc, hcm, hcs, htake⟩
  · have : l = [] := List.eq_nil_of_length_eq_zero hn
    subst this
    exact ⟨none, 0, rfl, by simp, by simp [maxLen], by simp, .inl rfl⟩
  · refine ⟨_, cap, rfl, hnc, hcm, hs, .inr ⟨g, 0, rfl, (Array.getElem?_eq_some_iff.1 hg).1, fun i x hx => ?_⟩⟩
    have hc : ∀ j u, j < 3 → (adrCells x)[j]? = some u → w.cell? ⟨g, 0 + i * 3 + j, none⟩ = some u := by
      intro j u hj hu
      have h1 := World.ownsRow.cells (g := g) h0 rfl (i * 3 + j) u (by rw [adrRow_at hx hj]; exact hu)
      rw [addrN] at h1
      rw [Nat.add_assoc]
      exact h1
    exact ⟨hc 0 _ (by omega) rfl, hc 1 _ (by omega) rfl, hc 2 _ (by omega) rfl⟩
theorem OwnR.at2 {w : World} {base : Nat} {v : Value} {l : List (Int × Int)} (h : OwnR w base v l) : ∃ a c, v = .slice a l.length c ∧ RnsAt w a c l := by
  obtain ⟨a, c, e, h1, h2, h3⟩ := h.runs
  refine ⟨a, c, e, h1, h2, ?_⟩
  rcases h3 with h3 | ⟨b, o, e, hb, hc⟩
  · exact .inl h3
  · refine .inr ⟨b, o, e, hb, fun i x hx => ?_⟩
    obtain ⟨hi, rfl⟩ := List.getElem?_eq_some_iff.1 hx
    exact hc i hi
/-- Where a magnet's lists lie. -/
structure MgP where
  ta : Option Addr
  tc : Nat
  pa : Option Addr
  pc : Nat
  sa : Option Addr
  sc : Nat
  oa : Option Addr
  oc : Nat
/-- The cells of a magnet. -/
abbrev magRow (m : MgV) (p : MgP) : Array Value := #[.string m.old, .string m.new, .string m.name, .slice p.ta m.tr.length p.tc, .slice p.pa m.pe.length p.pc, .slice p.sa m.ws.length p.sc, .slice p.oa m.on.length p.oc]
abbrev magVal (m : MgV) (p : MgP) : Value := .agg (magRow m p)
structure MagAt (w : World) (m : MgV) (p : MgP) : Prop where
  tr : StrsAt w p.ta p.tc m.tr
  pe : AdrsAt w p.pa p.pc m.pe
  ws : StrsAt w p.sa p.sc m.ws
  on : RnsAt w p.oa p.oc m.on
theorem MagAt.new {w w' : World} {m : MgV} {p : MgP} (h : MagAt w m p) (n : New w w') : MagAt w' m p := ⟨h.tr.new n, h.pe.new n, h.ws.new n, h.on.new n⟩
theorem MagIs.at' {w : World} {base : Nat} {v : Value} {m : MgV} (h : MagIs w base v m) (h1 : ∀ s ∈ m.tr, s.size ≤ maxLen) (h2 : ∀ s ∈ m.ws, s.size ≤ maxLen) (h3 : ∀ x ∈ m.pe, x.ip.size ≤ maxLen) : ∃ p, v = magVal m p ∧ MagAt w m p := by
  obtain ⟨tr, pe, ws, on, rfl, q1, q2, q3, q4⟩ := h
  obtain ⟨ta, tc, rfl, k1⟩ := OwnS.at' ⟨q1, h1⟩
  obtain ⟨pa, pc, rfl, k2⟩ := OwnA.at' ⟨q2⟩ h3
  obtain ⟨sa, sc, rfl, k3⟩ := OwnS.at' ⟨q3, h2⟩
  obtain ⟨oa, oc, rfl, k4⟩ := OwnR.at2 q4
  exact ⟨⟨ta, tc, pa, pc, sa, sc, oa, oc⟩, rfl, ⟨k1, k2, k3, k4⟩⟩
theorem MagAt.zero (w : World) : MagAt w mg0 ⟨none, 0, none, 0, none, 0, none, 0⟩ := ⟨⟨by simp [mg0], by simp [maxLen], by simp [mg0], .inl rfl⟩, ⟨by simp [mg0], by simp [maxLen], by simp [mg0], .inl rfl⟩, ⟨by simp [mg0], by simp [maxLen], by simp [mg0], .inl rfl⟩, ⟨by simp [mg0], by simp [maxLen], .inl rfl⟩⟩
end Go.Proofs.YtbgmkplpolgebaaGreatDoor

namespace Go.Proofs.YtbgmkplpolgebaaGreatDoor
set_option linter.unusedSimpArgs false
set_option linter.unusedVariables false
open Go.RowKit

theorem eq_upto {p q : List ByteArray} (hl : p.length = q.length) (h : ∀ (j : Nat) (h1 : j < p.length) (h2 : j < q.length), p[j] = q[j]) : p = q :=
  List.ext_getElem hl h
theorem eq_not {p q : List ByteArray} {j : Nat} (h1 : j < p.length) (h2 : j < q.length) (h : p[j] ≠ q[j]) : p ≠ q := by
  rintro rfl
  exact h rfl
end Go.Proofs.YtbgmkplpolgebaaGreatDoor

namespace Go.Proofs.YtbgmkplpolgebaaGreatDoor
set_option linter.unusedSimpArgs false
set_option linter.unusedVariables false
open Go.RowKit Go.Shelf

theorem eqL_upto {α : Type} {p q : List α} (hl : p.length = q.length) (h : ∀ (j : Nat) (h1 : j < p.length) (h2 : j < q.length), p[j] = q[j]) : p = q := List.ext_getElem hl h
theorem eqL_not {α : Type} {p q : List α} {j : Nat} (h1 : j < p.length) (h2 : j < q.length) (h : p[j] ≠ q[j]) : p ≠ q := by
  rintro rfl
  exact h rfl
set_option maxHeartbeats 1000000 in
theorem texts_any (a b : Option Addr) (c d : Nat) (p q : List ByteArray) (w : World) (hp : StrsAt w a c p) (hq : StrsAt w b d q) :
    Calls Tryz.prog 30 #[.slice a p.length c, .slice b q.length d] w fun e w' => e = .returned (.bool (decide (p = q))) ∧ New w w' := by
  have hm1 := hp.room; have hm2 := hp.cap; have hm3 := hq.room; have hm4 := hq.cap
  unfold maxLen at hm2 hm4
  by_cases hl : p.length = q.length
  · by_cases hz : 0 < p.length
    · obtain ⟨b1, o1, rfl, hb1, hc1⟩ := hp.get hz
      obtain ⟨b2, o2, rfl, hb2, hc2⟩ := hq.get (by omega)
      have HL := hid hl
      rw [← hl]
      clear hp hq hl
      go_enter Tryz.func30, Tryz.ntmps30
      go_wp2
      go_loopw [13] (fun i wr => ∃ k : Nat, i = .int .i64 k ∧ k ≤ p.length ∧ (∀ (j : Nat) (h1 : j < p.length) (h2 : j < q.length), j < k → p[j] = q[j]) ∧ ∃ n, wr = w.drewN n) (fun i _ => p.length - (intOf i).toNat)
      case atStart => exact ⟨0, rfl, by omega, by intros; omega, 0, rfl⟩
      case round =>
        obtain ⟨k, rfl, hk, hb, n, rfl⟩ := hrel
        have HB := hid hb
        clear hb
        by_cases hlt : k < p.length
        · have hlt2 : k < q.length := by have := HL.out; omega
          have g1 := hc1 k hlt
          have g2 := hc2 k hlt2
          have HC1 := hid hc1; have HC2 := hid hc2
          clear hc1 hc2
          by_cases he : p[k] = q[k]
          · have hb2 : (p[k].toList == q[k].toList) = true := by rw [two_eq, decide_eq_true he]
            have hb3 : (p[k].toList != q[k].toList) = false := by rw [bne, hb2]; rfl
            have HE := hid he
            clear he
            go_wp2_with fail
            go_region
            go_wp2
            exact ⟨⟨k + 1, by simp, by omega, fun j h1 h2 hj => by rcases Nat.lt_succ_iff_lt_or_eq.1 hj with h | h; exact HB.out j h1 h2 h; subst h; exact HE.out, n + 1, rfl⟩, by simp [intOf]; omega⟩
          · have hb2 : (p[k].toList == q[k].toList) = false := by rw [two_eq, decide_eq_false he]
            have hb3 : (p[k].toList != q[k].toList) = true := by rw [bne, hb2]; rfl
            have HE := hid (eq_not hlt hlt2 he)
            clear he
            go_wp2_with fail
            go_region
            go_wp2
            go_ret
            exact ⟨ret_bool (decide_eq_false HE.out).symm, (Mod.refl _ _).drewN n |>.drew⟩
        · have HE := hid (eq_upto HL.out (fun j h1 h2 => HB.out j h1 h2 (by omega)))
          clear hc1 hc2
          go_wp2
          go_ret
          exact ⟨ret_bool (decide_eq_true HE.out).symm, (Mod.refl _ _).drewN n⟩
    · obtain rfl : p = [] := List.eq_nil_of_length_eq_zero (by omega)
      obtain rfl : q = [] := List.eq_nil_of_length_eq_zero (by simpa using hl.symm)
      clear hp hq
      go_enter Tryz.func30, Tryz.ntmps30
      go_wp2
      refine wp_loop_rounds 1 ?_
      rw [rounds_succ]
      go_wp2
      go_ret
      exact ⟨ret_bool (by simp), Mod.refl _ _⟩
  · have HE := hid (show p ≠ q from fun h => hl (by rw [h]))
    clear hp hq
    go_enter Tryz.func30, Tryz.ntmps30
    go_wp2
    go_ret
    exact ⟨ret_bool (decide_eq_false HE.out).symm, Mod.refl _ _⟩
instance : DecidableEq AdrV := fun x y => decidable_of_iff (x.fam = y.fam ∧ x.ip = y.ip ∧ x.port = y.port) ⟨fun h => by cases x; cases y; simp at h; obtain ⟨rfl, rfl, rfl⟩ := h; rfl, fun h => by rw [h]; exact ⟨rfl, rfl, rfl⟩⟩
theorem toL_iff {a b : ByteArray} : (a.toList == b.toList) = true ↔ a = b := by rw [two_eq, decide_eq_true_iff]
theorem adr_eq {x y : AdrV} (h1 : x.fam = y.fam) (h2 : x.ip = y.ip) (h3 : x.port = y.port) : x = y := by cases x; cases y; simp at h1 h2 h3; obtain ⟨rfl, rfl, rfl⟩ := And.intro h1 (And.intro h2 h3); rfl
set_option maxRecDepth 100000 in
set_option maxHeartbeats 4000000 in
theorem eqR_any (a b : Option Addr) (c d : Nat) (p q : List (Int × Int)) (w : World) (hp : RnsAt w a c p) (hq : RnsAt w b d q) :
    Calls Tryz.prog 66 #[.slice a p.length c, .slice b q.length d] w fun e w' => e = .returned (.bool (decide (p = q))) ∧ New w w' := by
  have hm1 := hp.room; have hm2 := hp.cap; have hm3 := hq.room; have hm4 := hq.cap
  unfold maxLen at hm2 hm4
  by_cases hl : p.length = q.length
  rotate_left
  · have HE := hid (show p ≠ q from fun h => hl (by rw [h]))
    clear hp hq
    go_enter Tryz.func66, Tryz.ntmps66
    go_wp2
    go_ret
    exact ⟨ret_bool (decide_eq_false HE.out).symm, Mod.refl _ _⟩
  by_cases hz : 0 < p.length
  rotate_left
  · obtain rfl : p = [] := List.eq_nil_of_length_eq_zero (by omega)
    obtain rfl : q = [] := List.eq_nil_of_length_eq_zero (by simpa using hl.symm)
    clear hp hq
    go_enter Tryz.func66, Tryz.ntmps66
    go_wp2
    refine wp_loop_rounds 1 ?_
    rw [rounds_succ]
    go_wp2
    go_ret
    exact ⟨ret_bool (by simp), Mod.refl _ _⟩
  obtain ⟨b1, o1, rfl, hb1, hc1⟩ := hp.get hz
  obtain ⟨b2, o2, rfl, hb2, hc2⟩ := hq.get (by omega)
  have HL := hid hl
  have HC1 := hid hc1; have HC2 := hid hc2
  rw [← hl]
  clear hp hq hl hc1 hc2
  go_enter Tryz.func66, Tryz.ntmps66
  go_wp2
  go_loopw [13] (fun i wr => ∃ k : Nat, i = .int .i64 k ∧ k ≤ p.length ∧ (∀ (j : Nat) (h1 : j < p.length) (h2 : j < q.length), j < k → p[j] = q[j]) ∧ New w wr) (fun i _ => p.length - (intOf i).toNat)
  case atStart => exact ⟨0, rfl, by omega, by intros; omega, Mod.refl _ _⟩
  case round =>
    obtain ⟨k, rfl, hk, hb, hn⟩ := hrel
    have HB := hid hb
    have HN := hid hn
    clear hb
    by_cases hlt : k < p.length
    · have hlt2 : k < q.length := by have := HL.out; omega
      obtain ⟨x0, x1⟩ := HC1.out k hlt
      obtain ⟨y0, y1⟩ := HC2.out k hlt2
      have x0 := hn.cellv x0; have x1 := hn.cellv x1; have y0 := hn.cellv y0; have y1 := hn.cellv y1
      have HNE := hid (fun he => eqL_not (p := p) (q := q) hlt hlt2 he)
      obtain ⟨x, hx⟩ : ∃ x, x = p[k] := ⟨_, rfl⟩
      obtain ⟨y, hy⟩ : ∃ y, y = q[k] := ⟨_, rfl⟩
      rw [← hx] at x0 x1 HNE
      rw [← hy] at y0 y1 HNE
      have HXY := hid (And.intro hx hy)
      clear hx hy hn
      by_cases h1 : x.1 = y.1
      · have c1 : (x.1 == y.1) = true := by rw [beq_iff_eq]; exact h1
        by_cases h2 : x.2 = y.2
        · have c2 : (x.2 == y.2) = true := by rw [beq_iff_eq]; exact h2
          have HE := hid (show x = y from Prod.ext h1 h2)
          clear h1 h2
          go_wp2_with fail
          go_region_held3 (fun w' => w'.cell? ⟨b1, o1 + k * 2, none⟩ = some (.int .i64 x.1) ∧ w'.cell? ⟨b1, o1 + k * 2 + 1, none⟩ = some (.int .i64 x.2) ∧ w'.cell? ⟨b2, o2 + k * 2, none⟩ = some (.int .i64 y.1) ∧ w'.cell? ⟨b2, o2 + k * 2 + 1, none⟩ = some (.int .i64 y.2)) (go_keep) (fail)
          go_wp2
          exact ⟨⟨k + 1, by simp, by omega, fun j h1 h2 hj => by rcases Nat.lt_succ_iff_lt_or_eq.1 hj with h | h; exact HB.out j h1 h2 h; subst h; exact HXY.out.1.symm.trans (HE.out.trans HXY.out.2), HN.out.drew⟩, by simp [intOf]; omega⟩
        · have c2 : (x.2 == y.2) = false := by rw [beq_eq_false_iff_ne]; exact h2
          have HE := hid (HNE.out (fun e => h2 (by rw [e])))
          clear h1 h2
          go_wp2_with fail
          go_region_held3 (fun w' => w'.cell? ⟨b1, o1 + k * 2, none⟩ = some (.int .i64 x.1) ∧ w'.cell? ⟨b1, o1 + k * 2 + 1, none⟩ = some (.int .i64 x.2) ∧ w'.cell? ⟨b2, o2 + k * 2, none⟩ = some (.int .i64 y.1) ∧ w'.cell? ⟨b2, o2 + k * 2 + 1, none⟩ = some (.int .i64 y.2)) (go_keep) (fail)
          go_wp2
          go_ret
          exact ⟨ret_bool (decide_eq_false HE.out).symm, HN.out.drew⟩
      · have c1 : (x.1 == y.1) = false := by rw [beq_eq_false_iff_ne]; exact h1
        have HE := hid (HNE.out (fun e => h1 (by rw [e])))
        clear h1
        go_wp2_with fail
        go_region_held3 (fun w' => w'.cell? ⟨b1, o1 + k * 2, none⟩ = some (.int .i64 x.1) ∧ w'.cell? ⟨b1, o1 + k * 2 + 1, none⟩ = some (.int .i64 x.2) ∧ w'.cell? ⟨b2, o2 + k * 2, none⟩ = some (.int .i64 y.1) ∧ w'.cell? ⟨b2, o2 + k * 2 + 1, none⟩ = some (.int .i64 y.2)) (go_keep) (fail)
        go_wp2
        go_ret
        exact ⟨ret_bool (decide_eq_false HE.out).symm, HN.out.drew⟩
    · have HE := hid (eqL_upto HL.out (fun j h1 h2 => HB.out j h1 h2 (by omega)))
      clear hn
      go_wp2
      go_ret
      exact ⟨ret_bool (decide_eq_true HE.out).symm, HN.out⟩
set_option maxRecDepth 100000 in
set_option maxHeartbeats 4000000 in
theorem eqA_any (a b : Option Addr) (c d : Nat) (p q : List AdrV) (w : World) (hp : AdrsAt w a c p) (hq : AdrsAt w b d q) :
    Calls Tryz.prog 65 #[.slice a p.length c, .slice b q.length d] w fun e w' => e = .returned (.bool (decide (p = q))) ∧ New w w' := by
  have hm1 := hp.room; have hm2 := hp.cap; have hm3 := hq.room; have hm4 := hq.cap
  unfold maxLen at hm2 hm4
  by_cases hl : p.length = q.length
  rotate_left
  · have HE := hid (show p ≠ q from fun h => hl (by rw [h]))
    clear hp hq
    go_enter Tryz.func65, Tryz.ntmps65
    go_wp2
    go_ret
    exact ⟨ret_bool (decide_eq_false HE.out).symm, Mod.refl _ _⟩
  by_cases hz : 0 < p.length
  rotate_left
  · obtain rfl : p = [] := List.eq_nil_of_length_eq_zero (by omega)
    obtain rfl : q = [] := List.eq_nil_of_length_eq_zero (by simpa using hl.symm)
    clear hp hq
    go_enter Tryz.func65, Tryz.ntmps65
    go_wp2
    refine wp_loop_rounds 1 ?_
    rw [rounds_succ]
    go_wp2
    go_ret
    exact ⟨ret_bool (by simp), Mod.refl _ _⟩
  obtain ⟨b1, o1, rfl, hb1, hc1⟩ := hp.get hz
  obtain ⟨b2, o2, rfl, hb2, hc2⟩ := hq.get (by omega)
  have HL := hid hl
  have HC1 := hid hc1; have HC2 := hid hc2
  rw [← hl]
  clear hp hq hl hc1 hc2
  go_enter Tryz.func65, Tryz.ntmps65
  go_wp2
  go_loopw [13] (fun i wr => ∃ k : Nat, i = .int .i64 k ∧ k ≤ p.length ∧ (∀ (j : Nat) (h1 : j < p.length) (h2 : j < q.length), j < k → p[j] = q[j]) ∧ New w wr) (fun i _ => p.length - (intOf i).toNat)
  case atStart => exact ⟨0, rfl, by omega, by intros; omega, Mod.refl _ _⟩
  case round =>
    obtain ⟨k, rfl, hk, hb, hn⟩ := hrel
    have HB := hid hb
    have HN := hid hn
    clear hb
    by_cases hlt : k < p.length
    · have hlt2 : k < q.length := by have := HL.out; omega
      obtain ⟨x0, x1, x2⟩ := HC1.out k hlt
      obtain ⟨y0, y1, y2⟩ := HC2.out k hlt2
      have x0 := hn.cellv x0; have x1 := hn.cellv x1; have x2 := hn.cellv x2; have y0 := hn.cellv y0; have y1 := hn.cellv y1; have y2 := hn.cellv y2
      have HNE := hid (fun he => eqL_not (p := p) (q := q) hlt hlt2 he)
      obtain ⟨x, hx⟩ : ∃ x, x = p[k] := ⟨_, rfl⟩
      obtain ⟨y, hy⟩ : ∃ y, y = q[k] := ⟨_, rfl⟩
      rw [← hx] at x0 x1 x2 HNE
      rw [← hy] at y0 y1 y2 HNE
      have HXY := hid (And.intro hx hy)
      clear hx hy hn
      by_cases h1 : x.fam = y.fam
      · have c1 : (x.fam == y.fam) = true := by rw [beq_iff_eq]; exact h1
        by_cases h2 : x.ip = y.ip
        · have c2 : (x.ip.toList == y.ip.toList) = true := toL_iff.2 h2
          by_cases h3 : x.port = y.port
          · have c3 : (x.port == y.port) = true := by rw [beq_iff_eq]; exact h3
            have HE := hid (adr_eq h1 h2 h3)
            clear h1 h2 h3
            go_wp2_with fail
            go_region_held3 (fun w' => w'.cell? ⟨b1, o1 + k * 3, none⟩ = some (.int .i64 x.fam) ∧ w'.cell? ⟨b1, o1 + k * 3 + 1, none⟩ = some (.string x.ip) ∧ w'.cell? ⟨b1, o1 + k * 3 + 2, none⟩ = some (.int .i64 x.port) ∧ w'.cell? ⟨b2, o2 + k * 3, none⟩ = some (.int .i64 y.fam) ∧ w'.cell? ⟨b2, o2 + k * 3 + 1, none⟩ = some (.string y.ip) ∧ w'.cell? ⟨b2, o2 + k * 3 + 2, none⟩ = some (.int .i64 y.port)) (go_keep) (fail)
            go_wp2
            exact ⟨⟨k + 1, by simp, by omega, fun j h1 h2 hj => by rcases Nat.lt_succ_iff_lt_or_eq.1 hj with h | h; exact HB.out j h1 h2 h; subst h; exact HXY.out.1.symm.trans (HE.out.trans HXY.out.2), HN.out.drew⟩, by simp [intOf]; omega⟩
          · have c3 : (x.port == y.port) = false := by rw [beq_eq_false_iff_ne]; exact h3
            have HE := hid (HNE.out (fun e => h3 (by rw [e])))
            clear h1 h2 h3
            go_wp2_with fail
            go_region_held3 (fun w' => w'.cell? ⟨b1, o1 + k * 3, none⟩ = some (.int .i64 x.fam) ∧ w'.cell? ⟨b1, o1 + k * 3 + 1, none⟩ = some (.string x.ip) ∧ w'.cell? ⟨b1, o1 + k * 3 + 2, none⟩ = some (.int .i64 x.port) ∧ w'.cell? ⟨b2, o2 + k * 3, none⟩ = some (.int .i64 y.fam) ∧ w'.cell? ⟨b2, o2 + k * 3 + 1, none⟩ = some (.string y.ip) ∧ w'.cell? ⟨b2, o2 + k * 3 + 2, none⟩ = some (.int .i64 y.port)) (go_keep) (fail)
            go_wp2
            go_ret
            exact ⟨ret_bool (decide_eq_false HE.out).symm, HN.out.drew⟩
        · have c2 : (x.ip.toList == y.ip.toList) = false := by rw [two_eq]; exact decide_eq_false h2
          have HE := hid (HNE.out (fun e => h2 (by rw [e])))
          clear h1 h2
          go_wp2_with fail
          go_region_held3 (fun w' => w'.cell? ⟨b1, o1 + k * 3, none⟩ = some (.int .i64 x.fam) ∧ w'.cell? ⟨b1, o1 + k * 3 + 1, none⟩ = some (.string x.ip) ∧ w'.cell? ⟨b1, o1 + k * 3 + 2, none⟩ = some (.int .i64 x.port) ∧ w'.cell? ⟨b2, o2 + k * 3, none⟩ = some (.int .i64 y.fam) ∧ w'.cell? ⟨b2, o2 + k * 3 + 1, none⟩ = some (.string y.ip) ∧ w'.cell? ⟨b2, o2 + k * 3 + 2, none⟩ = some (.int .i64 y.port)) (go_keep) (fail)
          go_wp2
          go_ret
          exact ⟨ret_bool (decide_eq_false HE.out).symm, HN.out.drew⟩
      · have c1 : (x.fam == y.fam) = false := by rw [beq_eq_false_iff_ne]; exact h1
        have HE := hid (HNE.out (fun e => h1 (by rw [e])))
        clear h1
        go_wp2_with fail
        go_region_held3 (fun w' => w'.cell? ⟨b1, o1 + k * 3, none⟩ = some (.int .i64 x.fam) ∧ w'.cell? ⟨b1, o1 + k * 3 + 1, none⟩ = some (.string x.ip) ∧ w'.cell? ⟨b1, o1 + k * 3 + 2, none⟩ = some (.int .i64 x.port) ∧ w'.cell? ⟨b2, o2 + k * 3, none⟩ = some (.int .i64 y.fam) ∧ w'.cell? ⟨b2, o2 + k * 3 + 1, none⟩ = some (.string y.ip) ∧ w'.cell? ⟨b2, o2 + k * 3 + 2, none⟩ = some (.int .i64 y.port)) (go_keep) (fail)
        go_wp2
        go_ret
        exact ⟨ret_bool (decide_eq_false HE.out).symm, HN.out.drew⟩
    · have HE := hid (eqL_upto HL.out (fun j h1 h2 => HB.out j h1 h2 (by omega)))
      clear hn
      go_wp2
      go_ret
      exact ⟨ret_bool (decide_eq_true HE.out).symm, HN.out⟩
end Go.Proofs.YtbgmkplpolgebaaGreatDoor
