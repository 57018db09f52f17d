/-
  Several texts in one, in their build order. (*check).file: whatever the file. Conditions: the check's two sets and the file lie as told; the sum so far is within the bound. The closure that Wrong defers: a frame that returns; a frame that panics with a list's first fault. Conditions: the two results' boxes lie as told. The walk of Wrong (package files): a list's first fault. Conditions: the list lies as told; the library's table is as laid.
-/
import Derived.Test.YtnhgichiedninaaGreatDoorM22
import Derived.Test.YtnhgichiedninaaGreatDoorM23
import Derived.Test.YtnhgichiedninaaGreatDoorM24
import Derived.Test.YtnhgichiedninaaGreatDoorM25
import Derived.Test.YtnhgichiedninaaGreatDoorM21
import Derived.Defers
import Derived.Recover
namespace Go.Proofs.YtnhgichiedninaaGreatDoor
set_option linter.unusedSimpArgs false
set_option linter.unusedVariables false
open Go.RowKit

theorem err_name {M A : List ByteArray} {tot : Int} {i last : Nat} {f : FileV} (h : badName f = true) : errA M A tot i last f = some 5 := by simp [errA, h]
theorem err_range {M A : List ByteArray} {tot : Int} {i last : Nat} {f : FileV} (h : badName f = false) (h2 : badRange f = true) : errA M A tot i last f = some 7 := by simp [errA, h, h2]
theorem err_dup {M A : List ByteArray} {tot : Int} {i last : Nat} {f : FileV} (h : badName f = false) (h2 : badRange f = false) (h3 : dupA M A f = true) : errA M A tot i last f = some 6 := by simp [errA, h, h2, h3]
theorem err_state {M A : List ByteArray} {tot : Int} {i last : Nat} {f : FileV} (h : badName f = false) (h2 : badRange f = false) (h3 : dupA M A f = false) (h4 : badState i last f = true) : errA M A tot i last f = some 9 := by simp [errA, h, h2, h3, h4]
theorem err_size {M A : List ByteArray} {tot : Int} {i last : Nat} {f : FileV} (h : badName f = false) (h2 : badRange f = false) (h3 : dupA M A f = false) (h4 : badState i last f = false) (h5 : 65536 < tot + f.len) : errA M A tot i last f = some 11 := by simp [errA, h, h2, h3, h4, h5]
theorem err_none {M A : List ByteArray} {tot : Int} {i last : Nat} {f : FileV} (h : badName f = false) (h2 : badRange f = false) (h3 : dupA M A f = false) (h4 : badState i last f = false) (h5 : ¬ 65536 < tot + f.len) : errA M A tot i last f = none := by simp [errA, h, h2, h3, h4, h5]

theorem file_any (b bm ba : Nat) (i last : Nat) (tot : Int) (pa : Option Addr) (pc : Nat) (f : FileV) (M A : List ByteArray) (w : World) (h : Ask w b bm ba pa pc f tot M A) (ht : 0 ≤ tot ∧ tot ≤ 65536) :
    Calls Tryz.prog 140 #[.pointer (some ⟨b, 0, none⟩), .int .i64 i, .int .i64 last, fileV pa pc f] w (Fin w b bm ba i f tot M A (errA M A tot i last f)) := by
  by_cases n1 : 1 ≤ f.path.length
  · by_cases n2 : f.path.length ≤ 8
    · cases n3 : f.path.all partOk with
      | false =>
        rw [err_name (by simp only [badName, named, n3]; simp)]
        exact file_name3 b bm ba i last tot pa pc f M A w h n1 n2 n3
      | true =>
        have hn : named f = true := by simp only [named, n3]; simp [n1, n2]
        cases hp : f.pad with
        | true =>
          by_cases h4 : f.path = padPath f.len
          · have b1 : badName f = false := by simp only [badName, hn, hp, decide_eq_true h4]; rfl
            have hd : dupA M A f = false := by simp [dupA, hp]
            by_cases r1 : f.len < 0
            · rw [err_range b1 (by simp [badRange, r1])]
              exact file_range1p b bm ba i last tot pa pc f M A w h n1 n2 n3 hp h4 (decide_eq_true r1)
            · by_cases r2 : 65536 < f.len
              · rw [err_range b1 (by simp [badRange, r2])]
                exact file_range2p b bm ba i last tot pa pc f M A w h n1 n2 n3 hp h4 (decide_eq_false r1) (decide_eq_true r2)
              · by_cases r3 : f.len < 1
                · rw [err_range b1 (by simp [badRange, r3, hp])]
                  exact file_range3 b bm ba i last tot pa pc f M A w h n1 n2 n3 hp h4 (decide_eq_false r1) (decide_eq_false r2) (decide_eq_true r3)
                · have b2 : badRange f = false := by simp only [badRange, decide_eq_false r1, decide_eq_false r2, decide_eq_false r3, hp]; rfl
                  by_cases s1 : i = 0
                  · rw [err_state b1 b2 hd (by simp [badState, s1, hp])]
                    exact file_state1 b bm ba i last tot pa pc f M A w h n1 n2 n3 hp h4 (decide_eq_false r1) (decide_eq_false r2) (decide_eq_false r3) (by simp [s1])
                  · by_cases s2 : i = last
                    · rw [err_state b1 b2 hd (by simp [badState, s2, hp])]
                      exact file_state2 b bm ba i last tot pa pc f M A w h n1 n2 n3 hp h4 (decide_eq_false r1) (decide_eq_false r2) (decide_eq_false r3) (by simpa using s1) (by simp [s2])
                    · have b4 : badState i last f = false := by simp [badState, s1, s2]
                      by_cases z : 65536 < tot + f.len
                      · rw [err_size b1 b2 hd b4 z]
                        exact file_padsize b bm ba i last tot pa pc f M A w h n1 n2 n3 hp h4 (decide_eq_false r1) (decide_eq_false r2) (decide_eq_false r3) (by simpa using s1) (by simp; omega) ht.1 ht.2 (by omega) (by omega) (decide_eq_true z)
                      · rw [err_none b1 b2 hd b4 z]
                        exact file_pad b bm ba i last tot pa pc f M A w h n1 n2 n3 hp h4 (decide_eq_false r1) (decide_eq_false r2) (decide_eq_false r3) (by simpa using s1) (by simp; omega) ht.1 ht.2 (by omega) (by omega) (decide_eq_false z)
          · rw [err_name (by simp only [badName, hp, decide_eq_false h4]; simp)]
            exact file_name4 b bm ba i last tot pa pc f M A w h n1 n2 n3 hp h4
        | false =>
          obtain ⟨p0, hp0⟩ : ∃ p0, f.path.head? = some p0 := by
            cases hq : f.path with
            | nil => simp [hq] at n1
            | cons x r => exact ⟨x, rfl⟩
          have hh : decide (f.path.head? = some dotpad) = (p0.toList == [46, 112, 97, 100]) := by
            rw [lit_eq, hp0, Bool.eq_iff_iff]
            simp [dotpad]
          cases hq : p0.toList == [46, 112, 97, 100] with
          | true =>
            rw [err_name (by simp only [badName, hn, hp, hh, hq]; rfl)]
            exact file_name5 b bm ba i last tot pa pc f M A w h n1 n2 n3 hp ⟨p0, hp0, hq⟩
          | false =>
            have b1 : badName f = false := by simp only [badName, hn, hp, hh, hq]; rfl
            by_cases r1 : f.len < 0
            · rw [err_range b1 (by simp [badRange, r1])]
              exact file_range1n b bm ba i last tot pa pc f M A w h n1 n2 n3 hp ⟨p0, hp0, hq⟩ (decide_eq_true r1)
            · by_cases r2 : 65536 < f.len
              · rw [err_range b1 (by simp [badRange, r2])]
                exact file_range2n b bm ba i last tot pa pc f M A w h n1 n2 n3 hp ⟨p0, hp0, hq⟩ (decide_eq_false r1) (decide_eq_true r2)
              · have b2 : badRange f = false := by simp only [badRange, decide_eq_false r1, decide_eq_false r2, hp]; rfl
                have b4 : badState i last f = false := by simp [badState, hp]
                cases d1 : hasB M (joinB f.path) with
                | true =>
                  rw [err_dup b1 b2 (by simp [dupA, hp, d1])]
                  exact file_dup1 b bm ba i last tot pa pc f M A w h n1 n2 n3 hp ⟨p0, hp0, hq⟩ (decide_eq_false r1) (decide_eq_false r2) d1
                | false =>
                  cases d2 : hasB A (joinB f.path) with
                  | true =>
                    rw [err_dup b1 b2 (by simp [dupA, hp, d2])]
                    exact file_dup2 b bm ba i last tot pa pc f M A w h n1 n2 n3 hp ⟨p0, hp0, hq⟩ (decide_eq_false r1) (decide_eq_false r2) d1 d2
                  | false =>
                    cases d3 : (heads f.path (f.path.length - 1)).any (hasB M) with
                    | true =>
                      rw [err_dup b1 b2 (by simp only [dupA, hp, d1, d2, d3]; rfl)]
                      exact file_dup3 b bm ba i last tot pa pc f M A w h n1 n2 n3 hp ⟨p0, hp0, hq⟩ (decide_eq_false r1) (decide_eq_false r2) d1 d2 d3
                    | false =>
                      have hd : dupA M A f = false := by simp only [dupA, hp, d1, d2, d3]; rfl
                      by_cases z : 65536 < tot + f.len
                      · rw [err_size b1 b2 hd b4 z]
                        exact file_plain b bm ba i last tot pa pc f M A w h n1 n2 n3 hp ⟨p0, hp0, hq⟩ (decide_eq_false r1) (decide_eq_false r2) d1 d2 d3 ht.1 ht.2 (by omega) (by omega) (some 11) (.inl ⟨decide_eq_true z, rfl⟩)
                      · rw [err_none b1 b2 hd b4 z]
                        exact file_plain b bm ba i last tot pa pc f M A w h n1 n2 n3 hp ⟨p0, hp0, hq⟩ (decide_eq_false r1) (decide_eq_false r2) d1 d2 d3 ht.1 ht.2 (by omega) (by omega) none (.inr ⟨decide_eq_false z, rfl⟩)
    · rw [err_name (by simp [badName, named, n2])]
      exact file_name2 b bm ba i last tot pa pc f M A w h (by omega)
  · rw [err_name (by simp only [badName, named, decide_eq_false n1]; simp)]
    exact file_name1 b bm ba i last tot pa pc f M A w h (by omega)
end Go.Proofs.YtnhgichiedninaaGreatDoor

namespace Go.Proofs.YtnhgichiedninaaGreatDoor
set_option linter.unusedSimpArgs false
set_option linter.unusedVariables false
open Go.RowKit

theorem catch_idle (p q : Addr) (w : World) :
    CallsD Tryz.prog 139 #[.pointer (some p), .pointer (some q)] .returning w fun e u' w' => e = .returned (.tuple #[]) ∧ u' = .returning ∧ w' = w := by
  refine callsD_of_wpS Tryz.func139 rfl fun c₀ cs hu => ?_
  apply wpS_seq
  apply wpS_region
  simp [wpOpsS, go_sem, recoverD, hu, Tryz.ntmps139, Exit.thenS]
  apply wpS_seq
  refine wpS_of_wp ?_
  go_wp2
  refine wpS_cond (t := false) (by simp [Act.eval, Array.replicate]) ?_
  simp only [Bool.false_eq_true, if_false]
  refine wpS_of_wp (wp_skip ?_)
  cases c₀
  simp_all [bodyPostS, results, Tryz.results139]

set_option maxRecDepth 100000 in
set_option maxHeartbeats 1000000 in
theorem catch_told (p q : Nat) (i er : Int) (w : World) (hp : Blk w p #[.int .i64 0] 3) (hq : Blk w q #[.int .i64 0] 28) (hne : p ≠ q) :
    CallsD Tryz.prog 139 #[.pointer (some ⟨p, 0, none⟩), .pointer (some ⟨q, 0, none⟩)] (.panicking (told i er)) w fun e u' w' =>
      e = .returned (.tuple #[]) ∧ u' = .panicking [{ v := .iface 195 (.agg #[.int .i64 i, .int .i64 er]), recovered := true }] ∧ Blk w' p #[.int .i64 i] 3 ∧ Blk w' q #[.int .i64 er] 28 ∧ Mod (fun k => k = p ∨ k = q) w w' := by
  obtain ⟨p1, p2, p3⟩ := hp.one
  obtain ⟨q1, q2, q3⟩ := hq.one
  have HP := hid hp; have HQ := hid hq
  clear hp hq
  unfold told
  have hta : ∀ (x y : Int) (w : World), (Instr.typeAssert (.iface 195 (.agg #[.int .i64 x, .int .i64 y])) 20 195 true).run Tryz.prog w = .ok (.tuple #[.agg #[.int .i64 x, .int .i64 y], .bool true]) w := fun _ _ _ => by simp [Instr.typeAssert, run_underlying Tryz.underlying195, Result.andThen]
  refine callsD_of_wpS Tryz.func139 rfl fun c₀ cs hu => ?_
  apply wpS_seq
  apply wpS_region
  simp [wpOpsS, go_sem, recoverD, hu, Tryz.ntmps139, Exit.thenS, show Array.replicate 18 undef = #[undef, undef, undef, undef, undef, undef, undef, undef, undef, undef, undef, undef, undef, undef, undef, undef, undef, undef] from rfl]
  apply wpS_seq
  refine wpS_of_wp ?_
  go_wp2
  refine wpS_cond (t := true) (by simp [Act.eval, Array.replicate]) ?_
  simp only [if_true]
  refine wpS_of_wp ?_
  go_wp2
  go_region
  refine ⟨rfl, .panicking [{ v := .iface 195 (.agg #[.int .i64 i, .int .i64 er]), recovered := true }], ?_, .tuple #[], by simp [results, Tryz.results139], rfl, rfl, ?_, ?_, ?_⟩
  · first | rfl | (simp; done) | (cases c₀; simp_all)
  · apply Blk.row
    · repeat (first | with_reducible exact HP.out | (with_reducible apply Blk.newAt; (simp; done)) | with_reducible apply Blk.alloc | with_reducible apply Blk.drew | with_reducible apply Blk.drewN | with_reducible apply Blk.set | (with_reducible apply Blk.other; · first | (simp; done) | (simp; omega) | omega) | (with_reducible apply Blk.putObj; · first | (simp; done) | (simp; omega) | omega))
    · rfl
  · apply Blk.row
    · repeat (first | with_reducible exact HQ.out | (with_reducible apply Blk.newAt; (simp; done)) | with_reducible apply Blk.alloc | with_reducible apply Blk.drew | with_reducible apply Blk.drewN | with_reducible apply Blk.set | (with_reducible apply Blk.other; · first | (simp; done) | (simp; omega) | omega) | (with_reducible apply Blk.putObj; · first | (simp; done) | (simp; omega) | omega))
    · rfl
  · repeat (first | with_reducible exact Mod.refl _ _ | with_reducible refine Mod.alloc ?_ _ | with_reducible refine Mod.drew ?_ | with_reducible refine Mod.drewN ?_ _ | (with_reducible refine Mod.set ?_ _ _ (by first | exact .inl rfl | (right; omega) | (right; simp; done) | (right; simp; omega) | (left; omega) | (left; simp; done) | (left; simp; omega))) | (with_reducible refine Mod.putObj ?_ _ _ (by first | exact .inl rfl | (right; omega) | (right; simp; done) | (right; simp; omega) | (left; omega) | (left; simp; done) | (left; simp; omega))))
end Go.Proofs.YtnhgichiedninaaGreatDoor

namespace Go.Proofs.YtnhgichiedninaaGreatDoor
set_option linter.unusedSimpArgs false
set_option linter.unusedVariables false
open Go.RowKit

theorem FilesAt.mod {S : Nat → Prop} {w w' : World} {a : Option Addr} {c : Nat} {l : List FileV} (h : FilesAt w a c l) (hm : Mod S w w') (hs : ∀ k, k < w.heap.size → ¬ S k) : FilesAt w' a c l :=
  h.new ⟨hm.os, hm.tape, hm.output, hm.size, fun k hk _ => hm.block k hk (hs k hk)⟩
theorem Mod.new_of {S : Nat → Prop} {w w' : World} (hm : Mod S w w') (hs : ∀ k, k < w.heap.size → ¬ S k) : New w w' :=
  ⟨hm.os, hm.tape, hm.output, hm.size, fun k hk _ => hm.block k hk (hs k hk)⟩

set_option maxRecDepth 100000 in
set_option maxHeartbeats 1000000 in
theorem wrong_limit (a : Option Addr) (n c : Nat) (w : World) (hn : (n : Int) ≤ 9223372036854775807) (h : n = 0 ∨ 40 < n) :
    Calls Tryz.prog 94 #[.slice a n c] w fun e w' => e = .returned (.tuple #[.int .i64 0, .int .i64 4]) ∧ New w w' := by
  rcases h with h | h
  · have hb : ((n : Int) == 0) = true := by simp [h]
    clear h
    go_enter_defers Tryz.func94, Tryz.ntmps94
    go_wp2
    exact ⟨.tuple #[.int .i64 0, .int .i64 4], by simp [results, Tryz.results94, go_sem], rfl, ((Mod.refl _ _).alloc _).alloc _⟩
  · have hb : ((n : Int) == 0) = false := by simp; omega
    have hb2 : (40 : Int) < n := by omega
    clear h
    go_enter_defers Tryz.func94, Tryz.ntmps94
    go_wp2
    exact ⟨.tuple #[.int .i64 0, .int .i64 4], by simp [results, Tryz.results94, go_sem], rfl, ((Mod.refl _ _).alloc _).alloc _⟩

/-- What the worlds within a call of Wrong hold. -/
structure Wl (w wr : World) (M A : List ByteArray) (tot : Int) : Prop where
  t0 : 0 ≤ tot
  t1 : tot ≤ 65536
  xc : Blk wr (w.heap.size + 4) #[.map (some (w.heap.size + 2)), .map (some (w.heap.size + 3)), .int .i64 tot] 199
  sm : SetAt wr (w.heap.size + 2) M
  sa : SetAt wr (w.heap.size + 3) A
  p : Blk wr w.heap.size #[.int .i64 0] 3
  q : Blk wr (w.heap.size + 1) #[.int .i64 0] 28
  mod : Mod (fun j => w.heap.size ≤ j) w wr
theorem Wl.new {w wr w' : World} {M A : List ByteArray} {tot : Int} (h : Wl w wr M A tot) (n : New wr w') : Wl w w' M A tot :=
  ⟨h.t0, h.t1, n.blk h.xc, h.sm.mod n (fun x => x), h.sa.mod n (fun x => x), n.blk h.p, n.blk h.q, h.mod.trans' n (fun _ _ x => x.elim)⟩
theorem Wl.ask {w wr : World} {M A : List ByteArray} {tot : Int} (h : Wl w wr M A tot) {pa : Option Addr} {pc : Nat} {f : FileV} (hs : StrsAt wr pa pc f.path) (ht : Tab wr) (hl : -9223372036854775808 ≤ f.len ∧ f.len ≤ 9223372036854775807) :
    Ask wr (w.heap.size + 4) (w.heap.size + 2) (w.heap.size + 3) pa pc f tot M A :=
  ⟨h.xc, h.sm, h.sa, hs, ⟨by omega, by omega, by omega⟩, ht, hl⟩
theorem Ask.alloc {w : World} {b bm ba : Nat} {pa : Option Addr} {pc : Nat} {f : FileV} {tot : Int} {M A : List ByteArray} (h : Ask w b bm ba pa pc f tot M A) (o : Obj) : Ask (w.alloc o) b bm ba pa pc f tot M A :=
  have n : New w (w.alloc o) := (Mod.refl _ _).alloc o
  ⟨n.blk h.xc, h.sm.mod n (fun x => x), h.sa.mod n (fun x => x), h.sp.new n, h.far, h.tab.new n, h.len⟩
theorem Wl.done {w wr w' : World} {M A M' A' : List ByteArray} {tot tot' : Int} (h : Wl w wr M A tot) (d : Done wr w' (w.heap.size + 4) (w.heap.size + 2) (w.heap.size + 3) tot' M' A') (h0 : 0 ≤ tot') (h1 : tot' ≤ 65536) : Wl w w' M' A' tot' :=
  ⟨h0, h1, d.xc, d.sm, d.sa, d.mod.blk h.p (by omega), d.mod.blk h.q (by omega), h.mod.trans' d.mod (fun k _ hk => by show w.heap.size ≤ k; rcases hk with rfl | rfl | rfl <;> omega)⟩
theorem err_some {M A : List ByteArray} {tot : Int} {i last : Nat} {f : FileV} (h : errA M A tot i last f = none) : ¬ f.len < 0 ∧ ¬ 65536 < tot + f.len := by
  unfold errA at h
  split at h
  · cases h
  · split at h
    · cases h
    · next hr =>
      split at h
      · cases h
      · split at h
        · cases h
        · split at h
          · cases h
          · next hz =>
            refine ⟨fun hl => ?_, hz⟩
            simp [badRange, hl] at hr

set_option maxRecDepth 100000 in
set_option maxHeartbeats 2000000 in
theorem wrong_go (a : Option Addr) (c : Nat) (l : List FileV) (w : World) (h : FilesAt w a c l) (ht : Tab w) (h1 : 1 ≤ l.length) (h2 : l.length ≤ 40) :
    Calls Tryz.prog 94 #[.slice a l.length c] w fun e w' => e = .returned (.tuple #[.int .i64 (goA (l.length - 1) 0 [] [] 0 l).1, .int .i64 (goA (l.length - 1) 0 [] [] 0 l).2]) ∧ New w w' := by
  have hmf : ∀ (fn : Fn) (first cap : Array Value) (w : World), (Instr.makeFunc fn first cap).run Tryz.prog w = .ok (.func fn first cap) w := fun _ _ _ _ => rfl
  have hmm := @run_makeMap Tryz.prog
  have hb : ((l.length : Int) == 0) = false := beq_eq_false_iff_ne.2 (by omega)
  have hb2 : ¬ (40 : Int) < l.length := by omega
  obtain ⟨sb, so, rfl, hsb, hsc⟩ := h.get (by omega)
  have HF0 := hid h
  have HSC := hid hsc
  have HT := hid ht
  obtain ⟨res, hres⟩ : ∃ r, r = goA (l.length - 1) 0 [] [] 0 l := ⟨_, rfl⟩
  rw [← hres]
  have HRES := hid hres
  clear h hsc ht hres
  go_enter_defers Tryz.func94, Tryz.ntmps94
  go_wp2
  go_loopw [21] (fun i wr => ∃ (k : Nat) (M A : List ByteArray) (tot : Int), i = .int .i64 k ∧ k ≤ l.length ∧ goA (l.length - 1) k M A tot (l.drop k) = res ∧ Wl w wr M A tot) (fun i _ => l.length - (intOf i).toNat)
  case atStart =>
    refine ⟨0, [], [], 0, rfl, by omega, by rw [HRES.out]; rfl, by omega, by omega, ?_, ?_, ?_, ?_, ?_, ?_⟩
    · apply Blk.row
      · repeat (first | with_reducible exact Blk.new _ _ _ | (with_reducible apply Blk.newAt; (simp; done)) | with_reducible apply Blk.alloc | with_reducible apply Blk.drew | with_reducible apply Blk.drewN | with_reducible apply Blk.set | (with_reducible apply Blk.other; · first | (simp; done) | (simp; omega) | omega) | (with_reducible apply Blk.putObj; · first | (simp; done) | (simp; omega) | omega))
      · rfl
    · exact (((SetAt.madeAt (w := (w.alloc _).alloc _) (by simp)).alloc _).alloc _)
    · exact ((SetAt.madeAt (w := ((w.alloc _).alloc _).alloc _) (by simp)).alloc _)
    · apply Blk.row
      · repeat (first | with_reducible exact Blk.new _ _ _ | (with_reducible apply Blk.newAt; (simp; done)) | with_reducible apply Blk.alloc | with_reducible apply Blk.drew | with_reducible apply Blk.drewN | with_reducible apply Blk.set | (with_reducible apply Blk.other; · first | (simp; done) | (simp; omega) | omega) | (with_reducible apply Blk.putObj; · first | (simp; done) | (simp; omega) | omega))
      · rfl
    · apply Blk.row
      · repeat (first | with_reducible exact Blk.new _ _ _ | (with_reducible apply Blk.newAt; (simp; done)) | with_reducible apply Blk.alloc | with_reducible apply Blk.drew | with_reducible apply Blk.drewN | with_reducible apply Blk.set | (with_reducible apply Blk.other; · first | (simp; done) | (simp; omega) | omega) | (with_reducible apply Blk.putObj; · first | (simp; done) | (simp; omega) | omega))
      · rfl
    · repeat (first | with_reducible exact Mod.refl _ _ | with_reducible refine Mod.alloc ?_ _ | with_reducible refine Mod.drew ?_ | with_reducible refine Mod.drewN ?_ _ | (with_reducible refine Mod.set ?_ _ _ (by first | exact .inl rfl | (right; omega) | (right; simp; done) | (right; simp; omega) | (left; omega) | (left; simp; done) | (left; simp; omega))) | (with_reducible refine Mod.putObj ?_ _ _ (by first | exact .inl rfl | (right; omega) | (right; simp; done) | (right; simp; omega) | (left; omega) | (left; simp; done) | (left; simp; omega))))
  case round =>
    obtain ⟨k, M, A, tot, rfl, hk, hgo, W⟩ := hrel
    have HW := hid W
    have HG := hid hgo
    have hsz := W.mod.size
    clear W hgo
    by_cases hlt : k < l.length
    · have HN := hid (HW.out.mod.new_of (fun k hk x => by omega))
      have hfa := (HSC.out k hlt).new HN.out
      have HLK := hid (show l.drop k = l[k] :: l.drop (k + 1) from List.drop_eq_getElem_cons hlt)
      obtain ⟨f, hf⟩ : ∃ f, f = l[k] := ⟨_, rfl⟩
      rw [← hf] at hfa HLK
      clear hf
      obtain ⟨pa, pc, g0, g1, g2, hst, hlen⟩ := hfa
      have HA := hid (HW.out.ask hst (HT.out.new HN.out) hlen)
      clear hst hlen
      have HF := hid (fun W (h : Ask W (w.heap.size + 4) (w.heap.size + 2) (w.heap.size + 3) pa pc f tot M A) => file_any _ _ _ k (l.length - 1) tot pa pc f M A W h ⟨HW.out.t0, HW.out.t1⟩)
      have e1 : ((l.length - 1 : Nat) : Int) = (l.length : Int) - 1 := by omega
      rw [e1] at HF
      clear e1
      cases he : errA M A tot k (l.length - 1) f with
      | some er =>
        rw [he] at HF
        have HE := hid he
        clear he
        go_wp2_with (first | (go_at_call 140; refine (HF.out _ ?_).mono ?_; (focus (repeat (first | with_reducible exact HA.out | with_reducible apply Ask.alloc))); rintro e w2 ⟨rfl, m2⟩; have M2 := hid m2; clear m2))
        have X := Wl.new HW.out (((Mod.refl (fun _ => False) wr).alloc (.cells #[.slice pa f.path.length pc, .int .i64 f.len, .bool f.pad] 60)))
        have BP := M2.out.blk X.p (by omega)
        have BQ := M2.out.blk X.q (by omega)
        have MM := X.mod.trans' M2.out (fun j _ hj => by show w.heap.size ≤ j; rcases hj with rfl | rfl | rfl <;> omega)
        refine leaves_cons (f := 139) (args := #[.pointer (some ⟨w.heap.size, 0, none⟩), .pointer (some ⟨w.heap.size + 1, 0, none⟩)]) (by simp) (by simp [go_sem]) ?_
        refine (catch_told w.heap.size (w.heap.size + 1) k er _ BP BQ (by omega)).mono ?_
        rintro e u' w3 ⟨rfl, rfl, bp, bq, m3⟩
        obtain ⟨p1, -, -⟩ := bp.one
        obtain ⟨q1, -, -⟩ := bq.one
        have hr : res = ((k : Int), er) := by
          rw [← HG.out, HLK.out, goA, HE.out]
        subst hr
        refine ⟨.tuple #[.int .i64 k, .int .i64 er], by simp [results, Tryz.results94, go_sem, p1, q1], rfl, (MM.trans' m3 (fun j _ hj => by show w.heap.size ≤ j; rcases hj with rfl | rfl <;> omega)).new_of (fun j hj x => by omega)⟩
      | none =>
        rw [he] at HF
        have HE := hid he
        clear he
        go_wp2_with (first | (go_at_call 140; refine (HF.out _ ?_).mono ?_; (focus (repeat (first | with_reducible exact HA.out | with_reducible apply Ask.alloc))); rintro e w2 ⟨rfl, d2⟩; have D2 := hid d2; clear d2))
        have X := Wl.new HW.out (((Mod.refl (fun _ => False) wr).alloc (.cells #[.slice pa f.path.length pc, .int .i64 f.len, .bool f.pad] 60)))
        obtain ⟨z1, z2⟩ := err_some HE.out
        have t0 := HW.out.t0
        exact ⟨⟨k + 1, addM f M, addA f A, tot + f.len, by simp, by omega, by rw [← HG.out, HLK.out, goA, HE.out], X.done D2.out (by omega) (by omega)⟩, by simp [intOf]; omega⟩
    · obtain ⟨p1, p2, p3⟩ := HW.out.p.one
      obtain ⟨q1, q2, q3⟩ := HW.out.q.one
      go_wp2
      refine leaves_cons (f := 139) (args := #[.pointer (some ⟨w.heap.size, 0, none⟩), .pointer (some ⟨w.heap.size + 1, 0, none⟩)]) (by simp) (by simp [go_sem]) ?_
      refine (catch_idle ⟨w.heap.size, 0, none⟩ ⟨w.heap.size + 1, 0, none⟩ _).mono ?_
      rintro e u' w3 ⟨rfl, rfl, rfl⟩
      have hr : res = (-1, 0) := by
        rw [← HG.out, List.drop_of_length_le (by omega)]
        rfl
      subst hr
      refine ⟨.tuple #[.int .i64 (-1), .int .i64 0], by simp [results, Tryz.results94, go_sem, p1, q1], rfl, ?_⟩
      refine Mod.new_of (S := fun j => w.heap.size ≤ j) ?_ (fun j hj x => by omega)
      repeat (first | with_reducible exact HW.out.mod | with_reducible refine Mod.alloc ?_ _ | with_reducible refine Mod.drew ?_ | with_reducible refine Mod.drewN ?_ _ | (with_reducible refine Mod.set ?_ _ _ (by first | exact .inl rfl | (right; omega) | (right; simp; done) | (right; simp; omega) | (left; omega) | (left; simp; done) | (left; simp; omega))) | (with_reducible refine Mod.putObj ?_ _ _ (by first | exact .inl rfl | (right; omega) | (right; simp; done) | (right; simp; omega) | (left; omega) | (left; simp; done) | (left; simp; omega))))
end Go.Proofs.YtnhgichiedninaaGreatDoor
