/-
  The iterator over the probes of a search: 'sizes' and its function. Conditions: as they stand.
-/
import Derived.Test.YtakglmdpaaiclaaSm
import Derived.Test.YtakglmdpaaiclaaRange
import Derived.Test.YtakglmdpaaiclaaFindM
namespace Go.Proofs.Ytakglmdpaaiclaa
open Go.RowKit Go.Shelf
attribute [local go_sem] Oper.semAt_some


theorem sizes_any (b : Nat) (w : World) :
    Calls Try.prog 33 #[.pointer (some ⟨b, 0, none⟩)] w fun e w' => e = .returned (.func (.func 44) #[] #[.pointer (some ⟨w.heap.size, 0, none⟩)]) ∧ w' = w.alloc (.cells #[.pointer (some ⟨b, 0, none⟩)] 31) := by
  go_enter Try.func33, Try.ntmps33
  go_wp2
  go_ret
  exact ⟨rfl, rfl⟩

/-- Next, between two probes. -/
theorem next_at (b : Nat) (s : St) (w : World) (hk : s.At) (ho : s.over = false) (h : Blk w b (prow s none) 58) :
    Calls Try.prog 16 #[.pointer (some ⟨b, 0, none⟩), .int .i64 0] w fun e w' => e = .returned (.tuple #[.int .i64 (s.asks 0).size, .int .i64 (s.asks 0).count, .int .i64 0]) ∧
      ∃ bp, w.heap.size ≤ bp ∧ Blk w' b (prow (s.asks 0) (some ⟨bp, 0, none⟩)) 58 ∧ Blk w' bp #[.int .i64 (s.asks 0).size, .int .i64 (s.asks 0).count] 65 ∧ Mod (· = b) w w' :=
  next_ask b s 0 w hk.ok (by simp [St.bad, hk.now]) ho h
theorem next_over (b : Nat) (s : St) (w : World) (hk : s.At) (ho : s.over = true) (h : Blk w b (prow s none) 58) :
    Calls Try.prog 16 #[.pointer (some ⟨b, 0, none⟩), .int .i64 0] w fun e w' => e = .returned (.tuple #[.int .i64 0, .int .i64 0, .int .i64 8]) ∧ New w w' :=
  next_none b s 0 w hk.ok (by simp [St.bad, hk.now]) ho (.inl (by have := hk.ok.s1; omega)) h

/-- How many probes may still come, read off the world. -/
def togo (b : Nat) (w : World) : Nat := match w.cell? ⟨b, 7, none⟩ with | some v => (1000 - intOf v).toNat | none => 0

theorem togo_eq {b : Nat} {w : World} {s : St} {p : Option Addr} {t : TypeId} (h : Blk w b (prow s p) t) : togo b w = (1000 - s.count).toNat := by
  simp [togo, h.cell 7, prow, intOf]

set_option maxRecDepth 100000 in
set_option maxHeartbeats 1000000 in
theorem sizes1_any (l b Bs m : Nat) (hm : 1 ≤ m) (Inv : St → World → Prop) (Fin : World → Prop)
    (hI : ∀ s W, Inv s W → s.At ∧ s.count ≤ 1000 ∧ Blk W b (prow s none) 58 ∧ Blk W Bs #[.pointer (some ⟨b, 0, none⟩)] 31)
    (hN : ∀ s W W', Inv s W → New W W' → Inv s W')
    (hY : ∀ s W W' bp, Inv s W → s.over = false → W.heap.size ≤ bp → Blk W' b (prow (s.asks 0) (some ⟨bp, 0, none⟩)) 58 → Blk W' bp #[.int .i64 (s.asks 0).size, .int .i64 (s.asks 0).count] 65 → Mod (· = b) W W' →
      YieldAt Fence.wide (m - 1) Try.prog l #[.int .i64 (s.asks 0).size, .int .i64 (s.asks 0).count] W' fun e W'' => (e = .returned (.bool true) ∧ ∃ s', Inv s' W'' ∧ s.count < s'.count) ∨ (e = .returned (.bool false) ∧ Fin W''))
    (hE : ∀ s W, Inv s W → s.over = true → Fin W) (s : St) (W : World) (h0 : Inv s W) :
    CallsIn Fence.wide m Try.prog 44 #[.func (.yield l) #[] #[], .pointer (some ⟨Bs, 0, none⟩)] W fun e W' => (∃ v, e = .returned v) ∧ Fin W' := by
  refine callsIn_of_wp Try.func44 rfl trivial ?_ rfl
  simp only [Try.ntmps44, List.size_toArray, List.length_cons, List.length_nil, Nat.reduceAdd, Nat.reduceSub, Array.replicate_succ, Array.replicate_zero, List.push_toArray, List.append_toArray, List.nil_append, List.cons_append]
  gi_wp2
  gi_loopw [3, 4, 5] (fun _ _ _ wr => ∃ s, Inv s wr) (fun _ _ _ wr => togo b wr)
  case atStart => exact ⟨s, h0⟩
  case round =>
    obtain ⟨s, hs⟩ := hrel
    obtain ⟨hat, hcnt, hB, hBs⟩ := hI s wr hs
    have hmix : Try.prog.follows .mixedOrders = true := by kernel_rfl
    have c0 : wr.cell? ⟨Bs, 0, none⟩ = some (.pointer (some ⟨b, 0, none⟩)) := hBs.cellv 0 rfl
    have c3 : wr.cell? ⟨b, 3, none⟩ = some (.int .i64 0) := by rw [hB.cell 3]; simp [prow, hat.now]
    have HB := hid hB
    have HS := hid hs
    have HA := hid hat
    have HF := hid hE; have HI := hid hN; have HY := hid hY; have HJ := hid hI; have hc1 := hid hcnt
    clear hB hs hBs hat hI hN hE hY h0
    cases ho : s.over with
    | true =>
      have HO := hid ho
      clear ho
      gi_wp2
      gi_region_with_o (refine ⟨trivial, ?_⟩; gi_at_call 16; refine (callsIn_wide.2 (next_over b s _ HA.out HO.out HB.out.drew)).mono ?_; rintro e w' ⟨rfl, hN1⟩; have HN1 := hid hN1; clear hN1)
      all_goals gi_wp2
      all_goals (refine ⟨fun _ h => (by cases h), ?_⟩; gi_wp2)
      all_goals refine bodyPost_ret (results_none rfl _ _ _) rfl ?_
      all_goals exact ⟨⟨_, rfl⟩, HF.out _ _ (HI.out _ _ _ HS.out (Mod.trans (Mod.drew (Mod.refl _ _)) HN1.out)) HO.out⟩
    | false =>
      have HO := hid ho
      clear ho
      gi_wp2
      gi_region_with_o (refine ⟨trivial, ?_⟩; gi_at_call 16; refine (callsIn_wide.2 (next_at b s _ HA.out HO.out HB.out.drew)).mono ?_; rintro e w1 ⟨rfl, bp, hbp, hB1, hB2, hM⟩; obtain ⟨fn, tmps, assign, body, hy, hR⟩ := HY.out s _ w1 bp HS.out HO.out hbp hB1 hB2 (Mod.trans (Mod.drew (Mod.refl _ _)) hM); have HR := hid hR; clear hbp hB1 hB2 hM hR)
      all_goals gi_wp2
      all_goals (refine HR.out.mono ?_; rintro e W2 (⟨rfl, s', hs', hlt⟩ | ⟨rfl, hf⟩))
      all_goals gi_wp2
      all_goals first
        | (refine bodyPost_ret (results_none rfl _ _ _) rfl ?_; exact ⟨⟨_, rfl⟩, hf⟩)
        | skip
      all_goals go_roundw
      all_goals first
        | exact ⟨s', hs'⟩
        | (obtain ⟨k1, k2, k3, -⟩ := HJ.out _ _ hs'; rw [togo_eq k3, togo_eq HB.out]; have := hc1.out; omega)
end Go.Proofs.Ytakglmdpaaiclaa
