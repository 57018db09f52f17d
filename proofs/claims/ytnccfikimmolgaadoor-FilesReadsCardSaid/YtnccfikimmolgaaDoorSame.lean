/-
  The walks of same (package files) and Same (the reference): whether two lists are one. Conditions: both lists lie as told.
-/
import Derived.Test.YtnccfikimmolgaaDoorLaw5
namespace Go.Proofs.YtnccfikimmolgaaDoor
set_option linter.unusedSimpArgs false
set_option linter.unusedVariables false
open Go.RowKit

def eqF (f g : FileV) : Bool := (f.len == g.len) && ((f.pad == g.pad) && decide (f.path = g.path))
def sameB : List FileV → List FileV → Bool
  | [], [] => true
  | f :: r, g :: s => eqF f g && sameB r s
  | _, _ => false
theorem eqF_self (f : FileV) : eqF f f = true := by simp [eqF]
theorem sameB_self : ∀ l : List FileV, sameB l l = true
  | [] => rfl
  | f :: r => by simp [sameB, eqF_self, sameB_self r]
theorem eqF_eq {f g : FileV} (h : eqF f g = true) : f = g := by
  simp only [eqF, Bool.and_eq_true, beq_iff_eq, decide_eq_true_eq] at h
  obtain ⟨a, b, c⟩ := f
  obtain ⟨a', b', c'⟩ := g
  simp at h
  obtain ⟨rfl, rfl, rfl⟩ := h
  rfl
theorem sameB_len : ∀ {l m : List FileV}, l.length ≠ m.length → sameB l m = false
  | [], [], h => absurd rfl h
  | [], _ :: _, _ => rfl
  | _ :: _, [], _ => rfl
  | f :: r, g :: s, h => by
    simp only [sameB, sameB_len (l := r) (m := s) (by simpa using h), Bool.and_false]
theorem sameB_all : ∀ {l m : List FileV}, l.length = m.length → (∀ (k : Nat) (h1 : k < l.length) (h2 : k < m.length), eqF l[k] m[k] = true) → sameB l m = true
  | [], [], _, _ => rfl
  | [], _ :: _, h, _ => by simp at h
  | _ :: _, [], h, _ => by simp at h
  | f :: r, g :: s, h, hk => by
    have h0 := hk 0 (by simp) (by simp)
    have hr := sameB_all (l := r) (m := s) (by simpa using h) (fun k h1 h2 => hk (k + 1) (by simpa using h1) (by simpa using h2))
    simp only [sameB, hr]
    simpa using h0
theorem sameB_not : ∀ {l m : List FileV} {k : Nat} (h1 : k < l.length) (h2 : k < m.length), eqF l[k] m[k] = false → sameB l m = false
  | f :: r, g :: s, 0, _, _, h => by simp only [sameB]; simp at h; simp [h]
  | f :: r, g :: s, k + 1, h1, h2, h => by
    have := sameB_not (l := r) (m := s) (k := k) (by simpa using h1) (by simpa using h2) (by simpa using h)
    simp only [sameB, this, Bool.and_false]

set_option maxRecDepth 100000 in
set_option maxHeartbeats 2000000 in
theorem same1_any (pa qa : Option Addr) (pc qc : Nat) (f g : FileV) (w : World) (hp : StrsAt w pa pc f.path) (hq : StrsAt w qa qc g.path) :
    Calls Tryd.prog 65 #[fileV pa pc f, fileV qa qc g] w fun e w' => e = .returned (.bool (eqF f g)) ∧ New w w' := by
  have HE := hid (fun W (n : New w W) => equal_any pa qa pc qc f.path g.path W (hp.new n) (hq.new n))
  clear hp hq
  cases d1 : decide (f.path = g.path) with
  | false =>
    rw [d1] at HE
    have HV := hid (show eqF f g = false by simp only [eqF, d1]; simp)
    clear d1
    go_enter Tryd.func65, Tryd.ntmps65
    go_wp2_with (go_at_call 60; refine (HE.out _ ?_).mono ?_; (focus (exact (((Mod.refl _ _).alloc _).alloc _))); rintro e w1 ⟨rfl, n1⟩; have N1 := hid n1; clear n1)
    go_ret
    exact ⟨ret_bool HV.out.symm, Mod.trans (((Mod.refl _ _).alloc _).alloc _) N1.out⟩
  | true =>
    rw [d1] at HE
    have HV := hid (show eqF f g = ((f.len == g.len) && (f.pad == g.pad)) by simp only [eqF, d1]; simp)
    clear d1
    cases d2 : (f.len == g.len) with
    | false =>
      rw [d2] at HV
      go_enter Tryd.func65, Tryd.ntmps65
      go_wp2_with (go_at_call 60; refine (HE.out _ ?_).mono ?_; (focus (exact (((Mod.refl _ _).alloc _).alloc _))); rintro e w1 ⟨rfl, n1⟩; have N1 := hid n1; obtain ⟨c0, c1, c2, c3, c4⟩ := Blk.file (f := f) (pa := pa) (pc := pc) (n1.blk ((Blk.new w #[.slice pa f.path.length pc, .int .i64 f.len, .bool f.pad] 45).alloc _)); obtain ⟨e0, e1, e2, e3, e4⟩ := Blk.file (f := g) (pa := qa) (pc := qc) (n1.blk (Blk.newAt (w := w.alloc (.cells #[.slice pa f.path.length pc, .int .i64 f.len, .bool f.pad] 45)) (b := w.heap.size + 1) (cs := #[.slice qa g.path.length qc, .int .i64 g.len, .bool g.pad]) (t := 45) (by simp))); clear n1)
      go_ret
      exact ⟨ret_bool HV.out.symm, Mod.trans (((Mod.refl _ _).alloc _).alloc _) N1.out⟩
    | true =>
      rw [d2] at HV
      have HV2 := hid (show eqF f g = (f.pad == g.pad) by rw [HV.out]; simp)
      go_enter Tryd.func65, Tryd.ntmps65
      go_wp2_with (go_at_call 60; refine (HE.out _ ?_).mono ?_; (focus (exact (((Mod.refl _ _).alloc _).alloc _))); rintro e w1 ⟨rfl, n1⟩; have N1 := hid n1; obtain ⟨c0, c1, c2, c3, c4⟩ := Blk.file (f := f) (pa := pa) (pc := pc) (n1.blk ((Blk.new w #[.slice pa f.path.length pc, .int .i64 f.len, .bool f.pad] 45).alloc _)); obtain ⟨e0, e1, e2, e3, e4⟩ := Blk.file (f := g) (pa := qa) (pc := qc) (n1.blk (Blk.newAt (w := w.alloc (.cells #[.slice pa f.path.length pc, .int .i64 f.len, .bool f.pad] 45)) (b := w.heap.size + 1) (cs := #[.slice qa g.path.length qc, .int .i64 g.len, .bool g.pad]) (t := 45) (by simp))); clear n1)
      go_ret
      exact ⟨ret_bool HV2.out.symm, Mod.trans (((Mod.refl _ _).alloc _).alloc _) N1.out⟩

set_option maxRecDepth 100000 in
set_option maxHeartbeats 2000000 in
theorem equalFunc_any (a b : Option Addr) (c d : Nat) (l m : List FileV) (w : World) (h : FilesAt w a c l) (k : FilesAt w b d m) :
    Calls Tryd.prog 64 #[.slice a l.length c, .slice b m.length d, .func (.func 65) #[] #[]] w fun e w' => e = .returned (.bool (sameB l m)) ∧ New w w' := by
  have hm1 := h.room; have hm2 := h.cap; have hm3 := k.room; have hm4 := k.cap
  unfold maxLen at hm2 hm4
  by_cases hl : l.length = m.length
  · by_cases hz : 0 < l.length
    · obtain ⟨b1, o1, rfl, hb1, hc1⟩ := h.get hz
      obtain ⟨b2, o2, rfl, hb2, hc2⟩ := k.get (by omega)
      have HL := hid hl
      have HC1 := hid hc1; have HC2 := hid hc2
      rw [← hl]
      clear h k hc1 hc2 hl
      go_enter Tryd.func64, Tryd.ntmps64
      go_wp2
      go_loopw [17] (fun i wr => ∃ j : Nat, i = .int .i64 j ∧ j ≤ l.length ∧ (∀ (k : Nat) (h1 : k < l.length) (h2 : k < m.length), k < j → eqF l[k] m[k] = true) ∧ New w wr) (fun i _ => l.length - (intOf i).toNat)
      case atStart => exact ⟨0, rfl, by omega, by intros; omega, Mod.refl _ _⟩
      case round =>
        obtain ⟨j, rfl, hj, hb, hn⟩ := hrel
        have HN := hid hn
        have HB := hid hb
        clear hb
        by_cases hlt : j < l.length
        · have hlt2 : j < m.length := by have := HL.out; omega
          have hb1r : b1 < wr.heap.size := Nat.lt_of_lt_of_le hb1 hn.size
          have hb2r : b2 < wr.heap.size := Nat.lt_of_lt_of_le hb2 hn.size
          obtain ⟨pa, pc, g0, g1, g2, hs1, -⟩ := (HC1.out j hlt).new hn
          obtain ⟨qa, qc, y0, y1, y2, hs2, -⟩ := (HC2.out j hlt2).new hn
          have HFE := hid (show ∀ f g, f = l[j] → g = m[j] → eqF f g = false → sameB l m = false from fun f g hf hg he => sameB_not hlt hlt2 (by rw [← hf, ← hg]; exact he))
          obtain ⟨f, hf⟩ : ∃ f, f = l[j] := ⟨_, rfl⟩
          obtain ⟨g, hg⟩ : ∃ g, g = m[j] := ⟨_, rfl⟩
          rw [← hf] at g0 g1 g2 hs1
          rw [← hg] at y0 y1 y2 hs2
          have HFG := hid (And.intro hf hg)
          have HS := hid (fun W (n : New wr W) => same1_any pa qa pc qc f g W (hs1.new n) (hs2.new n))
          clear hf hg hs1 hs2 hn
          cases he : eqF f g with
          | true =>
            rw [he] at HS
            have HE := hid he
            clear he
            go_wp2_with (go_at_call 65; refine (HS.out _ ?_).mono ?_; (focus (exact (((Mod.refl _ _).alloc _).alloc _))); rintro e w1 ⟨rfl, n1⟩; have N1 := hid (Mod.trans (((Mod.refl (fun _ => False) wr).alloc _).alloc _) n1); clear n1)
            exact ⟨⟨j + 1, by simp, by omega, fun k h1 h2 hk => by rcases Nat.lt_succ_iff_lt_or_eq.1 hk with h | h; exact HB.out k h1 h2 h; subst h; rw [← HFG.out.1, ← HFG.out.2]; exact HE.out, HN.out.trans N1.out⟩, by simp [intOf]; omega⟩
          | false =>
            rw [he] at HS
            have HE := hid (HFE.out f g HFG.out.1 HFG.out.2 he)
            clear he
            go_wp2_with (go_at_call 65; refine (HS.out _ ?_).mono ?_; (focus (exact (((Mod.refl _ _).alloc _).alloc _))); rintro e w1 ⟨rfl, n1⟩; have N1 := hid (Mod.trans (((Mod.refl (fun _ => False) wr).alloc _).alloc _) n1); clear n1)
            go_ret
            exact ⟨ret_bool HE.out.symm, HN.out.trans N1.out⟩
        · have HE := hid (sameB_all HL.out (fun k h1 h2 => HB.out k h1 h2 (by omega)))
          clear hn
          go_wp2
          go_ret
          exact ⟨ret_bool HE.out.symm, HN.out⟩
    · obtain rfl : l = [] := List.eq_nil_of_length_eq_zero (by omega)
      obtain rfl : m = [] := List.eq_nil_of_length_eq_zero (by simpa using hl.symm)
      clear h k
      go_enter Tryd.func64, Tryd.ntmps64
      go_wp2
      refine wp_loop_rounds 1 ?_
      rw [rounds_succ]
      go_wp2
      go_ret
      exact ⟨rfl, Mod.refl _ _⟩
  · have HE := hid (sameB_len hl)
    have hb : ((l.length : Int) == m.length) = false := beq_eq_false_iff_ne.2 (by omega)
    clear h k
    go_enter Tryd.func64, Tryd.ntmps64
    go_wp2
    go_ret
    exact ⟨ret_bool HE.out.symm, Mod.refl _ _⟩
set_option maxHeartbeats 1000000 in
theorem same_any (a b : Option Addr) (c d : Nat) (l m : List FileV) (w : World) (h : FilesAt w a c l) (k : FilesAt w b d m) :
    Calls Tryd.prog 46 #[.slice a l.length c, .slice b m.length d] w fun e w' => e = .returned (.bool (sameB l m)) ∧ New w w' := by
  have HE := hid (equalFunc_any a b c d l m w h k)
  clear h k
  go_enter Tryd.func46, Tryd.ntmps46
  go_wp2_with (go_at_call 64; refine HE.out.mono ?_; rintro e w1 ⟨rfl, n1⟩; have N1 := hid n1; clear n1)
  go_ret
  exact ⟨rfl, N1.out⟩
end Go.Proofs.YtnccfikimmolgaaDoor
