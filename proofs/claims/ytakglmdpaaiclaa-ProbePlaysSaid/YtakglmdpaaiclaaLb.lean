/-
  The walk of ProbePlays. Conditions: as they stand.
-/
import Derived.Test.YtakglmdpaaiclaaLa
import Derived.Test.YtakglmdpaaiclaaQuiet
import Derived.Test.YtakglmdpaaiclaaNx
import Derived.Deep.DeepCutAuto
import Derived.Deep.CutBlock
import Derived.Deep.RegionWith
import Derived.Deep.RegionHeld3
import Derived.Deep.CutRange
namespace Go.Proofs.Ytakglmdpaaiclaa
open Go.RowKit


structure ActV where
  kind : Int
  later : Int
  behind : Int
  size : Int
  others : Bool

def ActV.row (x : ActV) : Array Value := #[.int .i64 x.kind, .int .i64 x.later, .int .i64 x.behind, .int .i64 x.size, .bool x.others]

/-- The slice at a holds the acts l. -/
def ActsAt (w : World) (a : Option Addr) (l : List ActV) : Prop :=
  l = [] ∨ ∃ cb coff, a = some ⟨cb, coff, none⟩ ∧ cb < w.heap.size ∧ l.length ≤ maxLen ∧ ∀ i x, l[i]? = some x →
    w.cell? ⟨cb, coff + i * 5, none⟩ = some (.int .i64 x.kind) ∧ w.cell? ⟨cb, coff + i * 5 + 1, none⟩ = some (.int .i64 x.later) ∧ w.cell? ⟨cb, coff + i * 5 + 2, none⟩ = some (.int .i64 x.behind) ∧
    w.cell? ⟨cb, coff + i * 5 + 3, none⟩ = some (.int .i64 x.size) ∧ w.cell? ⟨cb, coff + i * 5 + 4, none⟩ = some (.bool x.others)
theorem ActsAt.new {w w' : World} {a : Option Addr} {l : List ActV} (h : ActsAt w a l) (hn : New w w') : ActsAt w' a l := by
  rcases h with h | ⟨cb, coff, hv, hb, hl, hc⟩
  · exact .inl h
  · refine .inr ⟨cb, coff, hv, Nat.lt_of_lt_of_le hb hn.size, hl, fun i x hx => ?_⟩
    have : ∀ o, w'.cell? ⟨cb, o, none⟩ = w.cell? ⟨cb, o, none⟩ := fun o => World.cell?_of_block (w := w) (hn.block cb hb (fun x => x))
    simp only [this]; exact hc i x hx

/-- Both searches are s. -/
structure Pair (w : World) (bs br : Nat) (s : St) (p : Option Addr) : Prop where
  ok : s.Ok
  a : Blk w bs (prow s p) 58
  pr : Probe w bs s p
  hp : ∀ x, p = some x → x.block ≠ br
  b : RB w br s
  ne : bs ≠ br

theorem Probe.mod {w w' : World} {S : Nat → Prop} {b : Nat} {s : St} {p : Option Addr} (h : Probe w b s p) (hm : Mod S w w') (hn : ∀ x, p = some x → ¬ S x.block) : Probe w' b s p := by
  rcases h with h | ⟨h1, bp, h2, h3, h4⟩
  · exact .inl h
  · exact .inr ⟨h1, bp, h2, h3, hm.blk h4 (hn _ h2)⟩
theorem Pair.mod {w w' : World} {S : Nat → Prop} {bs br : Nat} {s : St} {p : Option Addr} (h : Pair w bs br s p) (hm : Mod S w w') (h1 : ¬ S bs) (h2 : ¬ S br) (h3 : ∀ x, p = some x → ¬ S x.block) : Pair w' bs br s p :=
  ⟨h.ok, hm.blk h.a h1, h.pr.mod hm h3, h.hp, hm.blk h.b h2, h.ne⟩
theorem Pair.new {w w' : World} {bs br : Nat} {s : St} {p : Option Addr} (h : Pair w bs br s p) (hm : New w w') : Pair w' bs br s p := h.mod hm (fun x => x) (fun x => x) (fun _ _ x => x)
theorem Pair.step {w w1 w2 : World} {bs br : Nat} {s t : St} {p p' : Option Addr} (h : Pair w bs br s p) (ha : Blk w1 bs (prow t p') 58) (hp : Probe w1 bs t p') (hq : ∀ x, p' = some x → p = some x ∨ w.heap.size ≤ x.block)
    (hm1 : Mod (· = bs) w w1) (hb : RB w2 br t) (hm2 : Mod (· = br) w1 w2) (hok : t.Ok) : Pair w2 bs br t p' ∧ Mod (fun k => k = bs ∨ k = br) w w2 := by
  have hlt := Blk.lt h.b
  have hne := h.ne
  have hq' : ∀ x, p' = some x → x.block ≠ br := fun x hx => by
    rcases hq x hx with h' | h'
    · exact h.hp x h'
    · omega
  exact ⟨⟨hok, hm2.blk ha hne, hp.mod hm2 hq', hq', hb, hne⟩, Mod.trans (hm1.mono (fun i _ x => .inl x)) (hm2.mono (fun i _ x => .inr x))⟩

theorem count_told (s : St) (now number size what : Int) : (s.told now number size what).count = s.count := by
  by_cases h : s.endErr now number size = 0
  · exact (told_zero s now number size what h).2.2
  · unfold St.told; rw [if_neg h]
theorem count_stuck (s : St) (now : Int) : (s.stuck now).count = s.count := by
  unfold St.stuck
  split
  · rfl
  · unfold St.settle; split <;> rfl
theorem count_next (s : St) (now : Int) : (s.next now).count ≤ s.count + 1 := by
  unfold St.next
  split
  · unfold St.anew; split <;> simp [St.asks]
  · omega

set_option maxRecDepth 100000 in
set_option maxHeartbeats 10000000 in
theorem plays_any (low high : Int) (a : Option Addr) (cap : Nat) (l : List ActV) (w : World) (hl : l.length ≤ 150) (hr : right low high = true) (ha : ActsAt w a l) :
    Calls Try.prog 5 #[.int .i64 low, .int .i64 high, .slice a l.length cap] w fun e w' => e = .returned (.bool true) ∧ New w w' := by
  have HR := hid hr
  have HACT := hid ha
  clear hr ha
  go_enter Try.func5, Try.ntmps5
  go_wp2_with (first | (go_at_call 12; refine (new_ok _ _ _ HR.out).mono ?_; rintro e w1 ⟨rfl, hB1, hN1⟩; have HN1 := hid hN1; have HB1 := hid hB1; clear hN1 hB1) | (go_at_call 19; refine (rnew_ok _ _ _ HR.out).mono ?_; rintro e w2 ⟨rfl, hB2, hN2⟩; have HN2 := hid hN2; have HB2 := hid hB2; clear hN2 hB2))
  have hat := at_new low high HR.out
  have hne : w.heap.size < w1.heap.size := HB1.out.lt
  have hpair : Pair w2 w.heap.size w1.heap.size (newSt low high) none := ⟨hat.ok, New.blk HN2.out HB1.out, .inl ⟨hat.size, rfl⟩, fun x hx => (by simp at hx), HB2.out, by omega⟩
  have hnew : New w w2 := Mod.trans HN1.out HN2.out
  have hcount : (newSt low high).count ≤ 0 := by unfold newSt St.settle; split <;> simp
  go_loopw [11, 62] (fun n i wr => ∃ (k : Nat) (now : Int) (s : St) (p : Option Addr), k ≤ l.length ∧ i = .int .i64 k ∧ n = .int .i64 now ∧ 0 ≤ now ∧ now ≤ 1000000000 ∧ Pair wr w.heap.size w1.heap.size s p ∧ s.count ≤ k ∧ New w wr) (fun _ i _ => l.length - (intOf i).toNat)
  case atStart => exact ⟨0, 0, newSt low high, none, by omega, rfl, rfl, by omega, by omega, hpair, by simpa using hcount, hnew⟩
  case round =>
    obtain ⟨k, now, s, p, hk, rfl, rfl, hn1, hn2, hP, hcnt, hN⟩ := hrel
    have HP := hid hP; have HN := hid hN
    clear hat hpair hnew hcount hP hN
    by_cases hlt : k < l.length
    · have hx : l[k]? = some l[k] := List.getElem?_eq_getElem hlt
      obtain ⟨x, hxe⟩ : ∃ x, l[k] = x := ⟨_, rfl⟩
      rw [hxe] at hx
      rcases HACT.out.new HN.out with h | ⟨cb, coff, hae, hcb, hlm, hcc⟩
      · rw [h] at hlt; simp at hlt
      obtain ⟨z0, z1, z2, z3, z4⟩ := hcc k x hx
      subst hae
      have hlm' : (l.length : Int) ≤ 9223372036854775807 := by unfold maxLen at hlm; omega
      clear hx hxe hcc hlm
      by_cases g1 : 100000000 < x.later
      · as_aux_lemma =>
          go_wp2_with (go_at_call 6; refine (awake_any _).mono ?_; rintro e w' ⟨rfl, hn⟩; have HA := hid hn; clear hn)
          go_ret
          exact ⟨rfl, Mod.trans (Mod.alloc HN.out _) HA.out⟩
      by_cases g2 : x.later < -100000000
      · as_aux_lemma =>
          go_wp2_with (go_at_call 6; refine (awake_any _).mono ?_; rintro e w' ⟨rfl, hn⟩; have HA := hid hn; clear hn)
          go_ret
          exact ⟨rfl, Mod.trans (Mod.alloc HN.out _) HA.out⟩
      by_cases g3 : 10 < x.behind
      · as_aux_lemma =>
          go_wp2_with (go_at_call 6; refine (awake_any _).mono ?_; rintro e w' ⟨rfl, hn⟩; have HA := hid hn; clear hn)
          go_ret
          exact ⟨rfl, Mod.trans (Mod.alloc HN.out _) HA.out⟩
      by_cases g4 : x.behind < -10
      · as_aux_lemma =>
          go_wp2_with (go_at_call 6; refine (awake_any _).mono ?_; rintro e w' ⟨rfl, hn⟩; have HA := hid hn; clear hn)
          go_ret
          exact ⟨rfl, Mod.trans (Mod.alloc HN.out _) HA.out⟩
      obtain ⟨q1, q2, q3, q4, q5, q6⟩ := HP.out
      have hbr : w1.heap.size < wr.heap.size := Blk.lt q5
      have hc1 := q1.c1
      clear q1 q2 q3 q4 q5 q6
      go_wp2_with fail
      go_quiet ((go_at_call 20; exact quiet_left (rSent_any _ s _ (Blk.drewN (Blk.alloc HP.out.b _) _))))
      go_upto_block 2 with (fail)
      refine name_world (p := fun W => Code.wp _ _ _ _ W) (fun W0 hW0 => ?_)
      have hn0 : New wr W0 := by rw [hW0]; exact (Mod.alloc (Mod.refl _ _) _).drewN _
      have HP0 := hid (HP.out.new hn0)
      have HX := hid (show Blk W0 wr.heap.size x.row 45 by rw [hW0]; exact (Blk.new _ _ _).drewN _)
      have HN0 := hid (Mod.trans HN.out hn0)
      have HLT := hid (And.intro hbr HN.out.size)
      have hsw : w.heap.size < W0.heap.size ∧ w1.heap.size < W0.heap.size := by have := hn0.size; omega
      obtain ⟨hsw1, hsw2⟩ := hsw
      clear hW0 hn0 HP HN z0 z1 z2 z3 z4 hcb
      go_cut [16, 62] (fun v i wc => v = .bool true ∧ i = .int .i64 k ∧ ∃ s' p', Pair wc w.heap.size w1.heap.size s' p' ∧ s'.count ≤ s.count + 1 ∧ Blk wc wr.heap.size x.row 45 ∧ New w wc)
      case first =>
        have y0 : W0.cell? ⟨wr.heap.size, 0, none⟩ = some (.int .i64 x.kind) := HX.out.cellv 0 rfl
        have y3 : W0.cell? ⟨wr.heap.size, 3, none⟩ = some (.int .i64 x.size) := HX.out.cellv 3 rfl
        have y4 : W0.cell? ⟨wr.heap.size, 4, none⟩ = some (.bool x.others) := HX.out.cellv 4 rfl
        by_cases e1 : x.kind = 1
        · as_aux_lemma =>
            have b1 : (x.kind == 1) = true := by simp [e1]
            clear e1
            go_wp2_with (first | (go_at_call 21; refine (Acked_any _ s p _ _ _ HP0.out.ok HP0.out.a HP0.out.pr).mono ?_; rintro e W1 ⟨rfl, p', hB1, hP1, hq1, hM1⟩; have HB1 := hid hB1; have HP1 := hid hP1; have HQ1 := hid hq1; have HM1 := hid hM1; clear hB1 hP1 hq1 hM1) | (go_at_call 22; refine (rAcked_any _ s _ _ _ HP0.out.ok (HM1.out.blk HP0.out.b (Ne.symm HP0.out.ne))).mono ?_; rintro e W2 ⟨rfl, hB2, hM2⟩; have HB2 := hid hB2; have HM2 := hid hM2; clear hB2 hM2))
            go_meet
            case rel =>
              obtain ⟨hPr, hMd⟩ := (HP0.out).step HB1.out HP1.out (fun y hy => .inl (HQ1.out y hy)) HM1.out HB2.out HM2.out (ok_told _ _ _ _ _ HP0.out.ok)
              obtain ⟨x1, x2⟩ := HLT.out
              exact ⟨rfl, rfl, _, p', hPr, by rw [count_told]; omega, Mod.blk hMd (HX.out) (by omega), Mod.trans' (HN0.out) hMd (fun i hi x => by have x' : i = w.heap.size ∨ i = w1.heap.size := x; omega)⟩
        have b1 : (x.kind == 1) = false := by simp [e1]
        by_cases e2 : x.kind = 2
        · as_aux_lemma =>
            have b2 : (x.kind == 2) = true := by simp [e2]
            clear e1 e2
            go_wp2_with (first | (go_at_call 21; refine (Acked_any _ s p _ _ _ HP0.out.ok HP0.out.a HP0.out.pr).mono ?_; rintro e W1 ⟨rfl, p', hB1, hP1, hq1, hM1⟩; have HB1 := hid hB1; have HP1 := hid hP1; have HQ1 := hid hq1; have HM1 := hid hM1; clear hB1 hP1 hq1 hM1) | (go_at_call 22; refine (rAcked_any _ s _ _ _ HP0.out.ok (HM1.out.blk HP0.out.b (Ne.symm HP0.out.ne))).mono ?_; rintro e W2 ⟨rfl, hB2, hM2⟩; have HB2 := hid hB2; have HM2 := hid hM2; clear hB2 hM2))
            go_meet
            case rel =>
              obtain ⟨hPr, hMd⟩ := (HP0.out).step HB1.out HP1.out (fun y hy => .inl (HQ1.out y hy)) HM1.out HB2.out HM2.out (ok_told _ _ _ _ _ HP0.out.ok)
              obtain ⟨x1, x2⟩ := HLT.out
              exact ⟨rfl, rfl, _, p', hPr, by rw [count_told]; omega, Mod.blk hMd (HX.out) (by omega), Mod.trans' (HN0.out) hMd (fun i hi x => by have x' : i = w.heap.size ∨ i = w1.heap.size := x; omega)⟩
        have b2 : (x.kind == 2) = false := by simp [e2]
        by_cases e3 : x.kind = 3 ∨ x.kind = 4 ∨ x.kind = 5
        · as_aux_lemma =>
            have b3 : ((x.kind == 3) = true) ∨ ((x.kind == 3) = false ∧ (x.kind == 4) = true) ∨ ((x.kind == 3) = false ∧ (x.kind == 4) = false ∧ (x.kind == 5) = true) := by
              rcases e3 with e | e | e <;> simp [e]
            clear e1 e2 e3
            cases ho : x.others with
            | true =>
              rw [ho] at y4
              have HO := hid ho
              clear ho
              rcases b3 with b3 | ⟨b3, b4⟩ | ⟨b3, b4, b5⟩
              · as_aux_lemma =>
                  go_wp2
                  go_region_held3 (fun w' => w'.cell? ⟨wr.heap.size, 4, none⟩ = some (.bool true)) (go_keep) (first | (go_at_call 23; refine (Lost_yes _ s p _ _ _ HP0.out.ok HP0.out.a.drew (HP0.out.pr.mod (Mod.drew (Mod.refl (fun _ => False) _)) (fun _ _ x => x))).mono ?_; rintro e W1 ⟨rfl, p', hB1, hP1, hq1, hM1⟩; have yy : W1.cell? ⟨wr.heap.size, 4, none⟩ = some (.bool true) := (by have h := (hM1.blk HX.out.drew (by omega)).cellv 4 (v := .bool x.others) rfl; (try rw [HO.out] at h); exact h); have HB1 := hid hB1; have HP1 := hid hP1; have HQ1 := hid hq1; have HM1 := hid hM1; clear hB1 hP1 hq1 hM1) | (go_at_call 24; refine (rLost_yes _ s _ _ _ HP0.out.ok (HM1.out.blk (Blk.drew HP0.out.b) (Ne.symm HP0.out.ne))).mono ?_; rintro e W2 ⟨rfl, hB2, hM2⟩; have yz : W2.cell? ⟨wr.heap.size, 4, none⟩ = some (.bool true) := (by have h := (hM2.blk (HM1.out.blk HX.out.drew (by omega)) (by omega)).cellv 4 (v := .bool x.others) rfl; (try rw [HO.out] at h); exact h); have HB2 := hid hB2; have HM2 := hid hM2; clear hB2 hM2))
                  all_goals go_wp2
                  all_goals
                    go_meet
                    case rel =>
                      obtain ⟨hPr, hMd⟩ := (HP0.out.new (Mod.drew (Mod.refl _ _))).step HB1.out HP1.out (fun y hy => .inl (HQ1.out y hy)) HM1.out HB2.out HM2.out (ok_told _ _ _ _ _ HP0.out.ok)
                      obtain ⟨x1, x2⟩ := HLT.out
                      exact ⟨rfl, rfl, _, p', hPr, by rw [count_told]; omega, Mod.blk hMd (HX.out.drew) (by omega), Mod.trans' (Mod.drew HN0.out) hMd (fun i hi x => by have x' : i = w.heap.size ∨ i = w1.heap.size := x; omega)⟩
              · as_aux_lemma =>
                  go_wp2
                  go_region_held3 (fun w' => w'.cell? ⟨wr.heap.size, 4, none⟩ = some (.bool true)) (go_keep) (first | (go_at_call 23; refine (Lost_yes _ s p _ _ _ HP0.out.ok HP0.out.a.drew (HP0.out.pr.mod (Mod.drew (Mod.refl (fun _ => False) _)) (fun _ _ x => x))).mono ?_; rintro e W1 ⟨rfl, p', hB1, hP1, hq1, hM1⟩; have yy : W1.cell? ⟨wr.heap.size, 4, none⟩ = some (.bool true) := (by have h := (hM1.blk HX.out.drew (by omega)).cellv 4 (v := .bool x.others) rfl; (try rw [HO.out] at h); exact h); have HB1 := hid hB1; have HP1 := hid hP1; have HQ1 := hid hq1; have HM1 := hid hM1; clear hB1 hP1 hq1 hM1) | (go_at_call 24; refine (rLost_yes _ s _ _ _ HP0.out.ok (HM1.out.blk (Blk.drew HP0.out.b) (Ne.symm HP0.out.ne))).mono ?_; rintro e W2 ⟨rfl, hB2, hM2⟩; have yz : W2.cell? ⟨wr.heap.size, 4, none⟩ = some (.bool true) := (by have h := (hM2.blk (HM1.out.blk HX.out.drew (by omega)) (by omega)).cellv 4 (v := .bool x.others) rfl; (try rw [HO.out] at h); exact h); have HB2 := hid hB2; have HM2 := hid hM2; clear hB2 hM2))
                  all_goals go_wp2
                  all_goals
                    go_meet
                    case rel =>
                      obtain ⟨hPr, hMd⟩ := (HP0.out.new (Mod.drew (Mod.refl _ _))).step HB1.out HP1.out (fun y hy => .inl (HQ1.out y hy)) HM1.out HB2.out HM2.out (ok_told _ _ _ _ _ HP0.out.ok)
                      obtain ⟨x1, x2⟩ := HLT.out
                      exact ⟨rfl, rfl, _, p', hPr, by rw [count_told]; omega, Mod.blk hMd (HX.out.drew) (by omega), Mod.trans' (Mod.drew HN0.out) hMd (fun i hi x => by have x' : i = w.heap.size ∨ i = w1.heap.size := x; omega)⟩
              · as_aux_lemma =>
                  go_wp2
                  go_region_held3 (fun w' => w'.cell? ⟨wr.heap.size, 4, none⟩ = some (.bool true)) (go_keep) (first | (go_at_call 23; refine (Lost_yes _ s p _ _ _ HP0.out.ok HP0.out.a.drew (HP0.out.pr.mod (Mod.drew (Mod.refl (fun _ => False) _)) (fun _ _ x => x))).mono ?_; rintro e W1 ⟨rfl, p', hB1, hP1, hq1, hM1⟩; have yy : W1.cell? ⟨wr.heap.size, 4, none⟩ = some (.bool true) := (by have h := (hM1.blk HX.out.drew (by omega)).cellv 4 (v := .bool x.others) rfl; (try rw [HO.out] at h); exact h); have HB1 := hid hB1; have HP1 := hid hP1; have HQ1 := hid hq1; have HM1 := hid hM1; clear hB1 hP1 hq1 hM1) | (go_at_call 24; refine (rLost_yes _ s _ _ _ HP0.out.ok (HM1.out.blk (Blk.drew HP0.out.b) (Ne.symm HP0.out.ne))).mono ?_; rintro e W2 ⟨rfl, hB2, hM2⟩; have yz : W2.cell? ⟨wr.heap.size, 4, none⟩ = some (.bool true) := (by have h := (hM2.blk (HM1.out.blk HX.out.drew (by omega)) (by omega)).cellv 4 (v := .bool x.others) rfl; (try rw [HO.out] at h); exact h); have HB2 := hid hB2; have HM2 := hid hM2; clear hB2 hM2))
                  all_goals go_wp2
                  all_goals
                    go_meet
                    case rel =>
                      obtain ⟨hPr, hMd⟩ := (HP0.out.new (Mod.drew (Mod.refl _ _))).step HB1.out HP1.out (fun y hy => .inl (HQ1.out y hy)) HM1.out HB2.out HM2.out (ok_told _ _ _ _ _ HP0.out.ok)
                      obtain ⟨x1, x2⟩ := HLT.out
                      exact ⟨rfl, rfl, _, p', hPr, by rw [count_told]; omega, Mod.blk hMd (HX.out.drew) (by omega), Mod.trans' (Mod.drew HN0.out) hMd (fun i hi x => by have x' : i = w.heap.size ∨ i = w1.heap.size := x; omega)⟩
            | false =>
              rw [ho] at y4
              have HO := hid ho
              clear ho
              rcases b3 with b3 | ⟨b3, b4⟩ | ⟨b3, b4, b5⟩
              · as_aux_lemma =>
                  go_wp2
                  go_region_held3 (fun w' => w'.cell? ⟨wr.heap.size, 4, none⟩ = some (.bool false)) (go_keep) (first | (go_at_call 23; refine (Lost_no _ s p _ _ _ HP0.out.ok HP0.out.a.drew (HP0.out.pr.mod (Mod.drew (Mod.refl (fun _ => False) _)) (fun _ _ x => x))).mono ?_; rintro e W1 ⟨rfl, p', hB1, hP1, hq1, hM1⟩; have yy : W1.cell? ⟨wr.heap.size, 4, none⟩ = some (.bool false) := (by have h := (hM1.blk HX.out.drew (by omega)).cellv 4 (v := .bool x.others) rfl; (try rw [HO.out] at h); exact h); have HB1 := hid hB1; have HP1 := hid hP1; have HQ1 := hid hq1; have HM1 := hid hM1; clear hB1 hP1 hq1 hM1) | (go_at_call 24; refine (rLost_no _ s _ _ _ HP0.out.ok (HM1.out.blk (Blk.drew HP0.out.b) (Ne.symm HP0.out.ne))).mono ?_; rintro e W2 ⟨rfl, hB2, hM2⟩; have yz : W2.cell? ⟨wr.heap.size, 4, none⟩ = some (.bool false) := (by have h := (hM2.blk (HM1.out.blk HX.out.drew (by omega)) (by omega)).cellv 4 (v := .bool x.others) rfl; (try rw [HO.out] at h); exact h); have HB2 := hid hB2; have HM2 := hid hM2; clear hB2 hM2))
                  all_goals go_wp2
                  all_goals
                    go_meet
                    case rel =>
                      obtain ⟨hPr, hMd⟩ := (HP0.out.new (Mod.drew (Mod.refl _ _))).step HB1.out HP1.out (fun y hy => .inl (HQ1.out y hy)) HM1.out HB2.out HM2.out (ok_told _ _ _ _ _ HP0.out.ok)
                      obtain ⟨x1, x2⟩ := HLT.out
                      exact ⟨rfl, rfl, _, p', hPr, by rw [count_told]; omega, Mod.blk hMd (HX.out.drew) (by omega), Mod.trans' (Mod.drew HN0.out) hMd (fun i hi x => by have x' : i = w.heap.size ∨ i = w1.heap.size := x; omega)⟩
              · as_aux_lemma =>
                  go_wp2
                  go_region_held3 (fun w' => w'.cell? ⟨wr.heap.size, 4, none⟩ = some (.bool false)) (go_keep) (first | (go_at_call 23; refine (Lost_no _ s p _ _ _ HP0.out.ok HP0.out.a.drew (HP0.out.pr.mod (Mod.drew (Mod.refl (fun _ => False) _)) (fun _ _ x => x))).mono ?_; rintro e W1 ⟨rfl, p', hB1, hP1, hq1, hM1⟩; have yy : W1.cell? ⟨wr.heap.size, 4, none⟩ = some (.bool false) := (by have h := (hM1.blk HX.out.drew (by omega)).cellv 4 (v := .bool x.others) rfl; (try rw [HO.out] at h); exact h); have HB1 := hid hB1; have HP1 := hid hP1; have HQ1 := hid hq1; have HM1 := hid hM1; clear hB1 hP1 hq1 hM1) | (go_at_call 24; refine (rLost_no _ s _ _ _ HP0.out.ok (HM1.out.blk (Blk.drew HP0.out.b) (Ne.symm HP0.out.ne))).mono ?_; rintro e W2 ⟨rfl, hB2, hM2⟩; have yz : W2.cell? ⟨wr.heap.size, 4, none⟩ = some (.bool false) := (by have h := (hM2.blk (HM1.out.blk HX.out.drew (by omega)) (by omega)).cellv 4 (v := .bool x.others) rfl; (try rw [HO.out] at h); exact h); have HB2 := hid hB2; have HM2 := hid hM2; clear hB2 hM2))
                  all_goals go_wp2
                  all_goals
                    go_meet
                    case rel =>
                      obtain ⟨hPr, hMd⟩ := (HP0.out.new (Mod.drew (Mod.refl _ _))).step HB1.out HP1.out (fun y hy => .inl (HQ1.out y hy)) HM1.out HB2.out HM2.out (ok_told _ _ _ _ _ HP0.out.ok)
                      obtain ⟨x1, x2⟩ := HLT.out
                      exact ⟨rfl, rfl, _, p', hPr, by rw [count_told]; omega, Mod.blk hMd (HX.out.drew) (by omega), Mod.trans' (Mod.drew HN0.out) hMd (fun i hi x => by have x' : i = w.heap.size ∨ i = w1.heap.size := x; omega)⟩
              · as_aux_lemma =>
                  go_wp2
                  go_region_held3 (fun w' => w'.cell? ⟨wr.heap.size, 4, none⟩ = some (.bool false)) (go_keep) (first | (go_at_call 23; refine (Lost_no _ s p _ _ _ HP0.out.ok HP0.out.a.drew (HP0.out.pr.mod (Mod.drew (Mod.refl (fun _ => False) _)) (fun _ _ x => x))).mono ?_; rintro e W1 ⟨rfl, p', hB1, hP1, hq1, hM1⟩; have yy : W1.cell? ⟨wr.heap.size, 4, none⟩ = some (.bool false) := (by have h := (hM1.blk HX.out.drew (by omega)).cellv 4 (v := .bool x.others) rfl; (try rw [HO.out] at h); exact h); have HB1 := hid hB1; have HP1 := hid hP1; have HQ1 := hid hq1; have HM1 := hid hM1; clear hB1 hP1 hq1 hM1) | (go_at_call 24; refine (rLost_no _ s _ _ _ HP0.out.ok (HM1.out.blk (Blk.drew HP0.out.b) (Ne.symm HP0.out.ne))).mono ?_; rintro e W2 ⟨rfl, hB2, hM2⟩; have yz : W2.cell? ⟨wr.heap.size, 4, none⟩ = some (.bool false) := (by have h := (hM2.blk (HM1.out.blk HX.out.drew (by omega)) (by omega)).cellv 4 (v := .bool x.others) rfl; (try rw [HO.out] at h); exact h); have HB2 := hid hB2; have HM2 := hid hM2; clear hB2 hM2))
                  all_goals go_wp2
                  all_goals
                    go_meet
                    case rel =>
                      obtain ⟨hPr, hMd⟩ := (HP0.out.new (Mod.drew (Mod.refl _ _))).step HB1.out HP1.out (fun y hy => .inl (HQ1.out y hy)) HM1.out HB2.out HM2.out (ok_told _ _ _ _ _ HP0.out.ok)
                      obtain ⟨x1, x2⟩ := HLT.out
                      exact ⟨rfl, rfl, _, p', hPr, by rw [count_told]; omega, Mod.blk hMd (HX.out.drew) (by omega), Mod.trans' (Mod.drew HN0.out) hMd (fun i hi x => by have x' : i = w.heap.size ∨ i = w1.heap.size := x; omega)⟩
        have b3 : (x.kind == 3) = false := by simp; omega
        have b4 : (x.kind == 4) = false := by simp; omega
        have b5 : (x.kind == 5) = false := by simp; omega
        by_cases e6 : x.kind = 6
        · as_aux_lemma =>
            have b6 : (x.kind == 6) = true := by simp [e6]
            have HO : Hid (0 = 0) := rfl
            clear e1 e2 e3 e6
            go_wp2
            go_region_held3 (fun w' => w'.cell? ⟨wr.heap.size, 3, none⟩ = some (.int .i64 x.size)) (go_keep) (first | (go_at_call 25; refine (Big_any _ s p _ _ _ _ HP0.out.ok HP0.out.a.drew (HP0.out.pr.mod (Mod.drew (Mod.refl (fun _ => False) _)) (fun _ _ x => x))).mono ?_; rintro e W1 ⟨rfl, p', hB1, hP1, hq1, hM1⟩; have yy : W1.cell? ⟨wr.heap.size, 3, none⟩ = some (.int .i64 x.size) := (by have h := (hM1.blk HX.out.drew (by omega)).cellv 3 (v := .int .i64 x.size) rfl; (try rw [HO.out] at h); exact h); have HB1 := hid hB1; have HP1 := hid hP1; have HQ1 := hid hq1; have HM1 := hid hM1; clear hB1 hP1 hq1 hM1) | (go_at_call 26; refine (rBig_any _ s _ _ _ _ HP0.out.ok (HM1.out.blk (Blk.drew HP0.out.b) (Ne.symm HP0.out.ne))).mono ?_; rintro e W2 ⟨rfl, hB2, hM2⟩; have yz : W2.cell? ⟨wr.heap.size, 3, none⟩ = some (.int .i64 x.size) := (by have h := (hM2.blk (HM1.out.blk HX.out.drew (by omega)) (by omega)).cellv 3 (v := .int .i64 x.size) rfl; (try rw [HO.out] at h); exact h); have HB2 := hid hB2; have HM2 := hid hM2; clear hB2 hM2))
            all_goals go_wp2
            all_goals
              go_meet
              case rel =>
                obtain ⟨hPr, hMd⟩ := (HP0.out.new (Mod.drew (Mod.refl _ _))).step HB1.out HP1.out (fun y hy => .inl (HQ1.out y hy)) HM1.out HB2.out HM2.out (ok_told _ _ _ _ _ HP0.out.ok)
                obtain ⟨x1, x2⟩ := HLT.out
                exact ⟨rfl, rfl, _, p', hPr, by rw [count_told]; omega, Mod.blk hMd (HX.out.drew) (by omega), Mod.trans' (Mod.drew HN0.out) hMd (fun i hi x => by have x' : i = w.heap.size ∨ i = w1.heap.size := x; omega)⟩
        have b6 : (x.kind == 6) = false := by simp [e6]
        by_cases e7 : x.kind = 7
        · as_aux_lemma =>
            have b7 : (x.kind == 7) = true := by simp [e7]
            clear e1 e2 e3 e6 e7
            go_wp2_with (first | (go_at_call 27; refine (Stuck_any _ s p _ _ HP0.out.ok HP0.out.a HP0.out.pr).mono ?_; rintro e W1 ⟨rfl, p', hB1, hP1, hq1, hM1⟩; have HB1 := hid hB1; have HP1 := hid hP1; have HQ1 := hid hq1; have HM1 := hid hM1; clear hB1 hP1 hq1 hM1) | (go_at_call 28; refine (rStuck_any _ s _ _ HP0.out.ok (HM1.out.blk HP0.out.b (Ne.symm HP0.out.ne))).mono ?_; rintro e W2 ⟨rfl, hB2, hM2⟩; have HB2 := hid hB2; have HM2 := hid hM2; clear hB2 hM2))
            go_meet
            case rel =>
              obtain ⟨hPr, hMd⟩ := (HP0.out).step HB1.out HP1.out (fun y hy => .inl (HQ1.out y hy)) HM1.out HB2.out HM2.out (ok_stuck _ _ HP0.out.ok)
              obtain ⟨x1, x2⟩ := HLT.out
              exact ⟨rfl, rfl, _, p', hPr, by rw [count_stuck]; omega, Mod.blk hMd (HX.out) (by omega), Mod.trans' (HN0.out) hMd (fun i hi x => by have x' : i = w.heap.size ∨ i = w1.heap.size := x; omega)⟩
        have b7 : (x.kind == 7) = false := by simp [e7]
        clear e1 e2 e3 e6 e7
        as_aux_lemma =>
        go_wp2_with (first | (go_at_call 16; refine (Next_any _ s p _ _ HP0.out.ok HP0.out.a HP0.out.pr).mono ?_; rintro e W1 ⟨rfl, p', hB1, hP1, hq1, hM1⟩; have HB1 := hid hB1; have HP1 := hid hP1; have HQ1 := hid hq1; have HM1 := hid hM1; clear hB1 hP1 hq1 hM1) | (go_at_call 29; refine (rNext_any _ s _ _ HP0.out.ok (HM1.out.blk HP0.out.b (Ne.symm HP0.out.ne))).mono ?_; rintro e W2 ⟨rfl, hB2, hM2⟩; have HB2 := hid hB2; have HM2 := hid hM2; clear hB2 hM2))
        go_meet
        case rel =>
          obtain ⟨hPr, hMd⟩ := (HP0.out).step HB1.out HP1.out (fun y hy => HQ1.out y hy) HM1.out HB2.out HM2.out (ok_next _ _ HP0.out.ok (by omega))
          obtain ⟨x1, x2⟩ := HLT.out
          exact ⟨rfl, rfl, _, p', hPr, count_next _ _, Mod.blk hMd (HX.out) (by omega), Mod.trans' (HN0.out) hMd (fun i hi x => by have x' : i = w.heap.size ∨ i = w1.heap.size := x; omega)⟩
      case rest =>
        obtain ⟨rfl, rfl, s', p', hP', hc', hX', hN'⟩ := hcut
        have c1 : wc.cell? ⟨wr.heap.size, 1, none⟩ = some (.int .i64 x.later) := hX'.cellv 1 rfl
        have HP' := hid hP'; have HN' := hid hN'; have HX' := hid hX'
        have hle := hP'.ok.l2
        have hbd : k + 1 ≤ l.length := by omega
        have hct : s'.count ≤ (k : Int) + 1 := by omega
        clear hP' hN' hX' HP0 HX HN0 hc1 hcnt hc'
        go_wp2_with (first | (go_at_call 18; refine (Range_any _ s' p' _ HP'.out.a).mono ?_; rintro e W3 ⟨rfl, hnA⟩; have HA := hid hnA; clear hnA) | (go_at_call 30; refine (rRange_any _ s' _ (HA.out.blk HP'.out.b)).mono ?_; rintro e W4 ⟨rfl, hnB⟩; have HB := hid hnB; clear hnB; have HP4 := hid ((HP'.out.new HA.out).new HB.out)) | (go_at_call 14; refine (Size_any _ s' p' _ HP4.out.a).mono ?_; rintro e W5 ⟨rfl, rfl⟩) | (go_at_call 31; refine (rSize_any _ s' _ HP4.out.b).mono ?_; rintro e W5 ⟨rfl, rfl⟩) | (go_at_call 17; refine (State_any _ s' p' _ HP4.out.ok HP4.out.a).mono ?_; rintro e W5 ⟨rfl, hnC⟩; have HC := hid hnC; clear hnC; have HP5 := hid (HP4.out.new HC.out)) | (go_at_call 32; refine (rState_any _ s' _ HP5.out.ok HP5.out.b).mono ?_; rintro e W6 ⟨rfl, hnD⟩; have HD := hid hnD; clear hnD; have HP6 := hid (HP5.out.new HD.out)) | (go_at_call 15; refine (Sent_any _ s' p' _ HP6.out.a).mono ?_; rintro e W7 ⟨rfl, rfl⟩) | (go_at_call 20; refine (rSent_any _ s' _ HP6.out.b).mono ?_; rintro e W7 ⟨rfl, rfl⟩; have d1 : W6.cell? ⟨wr.heap.size, 1, none⟩ = some (.int .i64 x.later) := (HD.out.blk (HC.out.blk (HB.out.blk (HA.out.blk HX'.out)))).cellv 1 rfl))
        all_goals exact ⟨⟨k + 1, _, s', p', by omega, by go_num, rfl, by omega, by omega, HP6.out, by omega, Mod.trans HN'.out (Mod.trans HA.out (Mod.trans HB.out (Mod.trans HC.out HD.out)))⟩, by simp [intOf]; omega⟩
    · go_wp2_with (go_at_call 6; refine (awake_any _).mono ?_; rintro e w' ⟨rfl, hn⟩; have HA := hid hn; clear hn)
      go_ret
      exact ⟨rfl, Mod.trans HN.out HA.out⟩
end Go.Proofs.Ytakglmdpaaiclaa
