/-
  Several texts in one, in their build order. A range over a function, whatever the iterator and the body do to memory: the statement's law and the round's. Over any program. Conditions: the loop stands in no other loop's round; the rounds defer nothing. The iterators over a piece's spans, whatever the loop's rounds do that go on. Conditions: as they stand.
-/
import Derived.Test.YtnhgichiedninaaGreatDoorM1
import Derived.RangeFuncNested
import Derived.RangeFuncBound
import Derived.RangeFuncCalls
import Derived.RangeFuncLeaves
import Derived.Shelf.Abstract
import Derived.Shelf.RegionOpen
import Derived.OwnWalkIn
import Derived.TacticsInMore
import Derived.LoopNIn
import Derived.LoopIn
import Derived.Test.YtnhgichiedninaaGreatDoorM17
import Derived.Test.YtnhgichiedninaaGreatDoorRows
namespace Go.Proofs.YtnhgichiedninaaGreatDoor
set_option linter.unusedSimpArgs false
set_option linter.unusedVariables false
open Go.RowKit Go.Shelf

/-- The loop's record. -/
def recOf (fn : FuncId) (tmps : Array Value) (ps : Array Tmp) (assign body : Code) (D : Nat) (st : LoopState) (pe : Option Code) : Loop :=
  { state := st, pending := pe, fn, tmps, params := ps, assign, body, defers := D }

/-- What the record rec of a loop bears, whatever its state. -/
def RecIs (rec : LoopState → Option Code → Loop) (fn : FuncId) (tmps : Array Value) (ps : Array Tmp) (assign body : Code) (D : Nat) : Prop := rec = recOf fn tmps ps assign body D

theorem Mod.putObj {S : Nat → Prop} {a b : World} (h : Mod S a b) (r : Nat) (o : Obj) (hr : S r ∨ a.heap.size ≤ r) : Mod S a (b.putObj r o) :=
  ⟨h.os, h.tape, h.output, by have := h.size; simpa using this, fun i hi hn => (World.putObj_heap_other (w := b) (r := r) (k := i) (o := o) (fun e => by subst e; rcases hr with hr | hr; exact hn hr; omega)).trans (h.block i hi hn)⟩
theorem Blk.putObj {w : World} {b : Nat} {cs : Array Value} {t : TypeId} {r : Nat} {o : Obj} (hp : b ≠ r) (h : Blk w b cs t) : Blk (w.putObj r o) b cs t :=
  h.of_heap (World.putObj_heap_other hp)

/-- What is asked behind the iterator: it has come to its end, or a round has left the loop by the jump c. -/
def RangeEnd (F : Fence) (n : Nat) (P : Program) (Q : Exit → Act → World → Prop) (a' : Act) (l D : Nat) (rec : LoopState → Option Code → Loop) (e : Ending) (W : World) : Prop :=
  (∃ v, e = .returned v) ∧ W.heap[D]? = some (.deferred (some [])) ∧
    ((W.heap[l]? = some (.loop (rec .ready none)) ∧ Q .normal a' (W.putObj l (.loop (rec .exhausted none)))) ∨
     (∃ c, W.heap[l]? = some (.loop (rec .done (some c))) ∧ c.wpIn F n P Q a' (W.putObj l (.loop (rec .exhausted (some c))))))

theorem wpIn_range {F : Fence} {n : Nat} {P : Program} {g : Operand} {ps : Array Tmp} {assign body : Code} {Q : Exit → Act → World → Prop} {a : Act} {w : World}
    (hro : F.round = none) (h1 : 1 ≤ n) {gf : Nat} {lb : Array Value} (hg : a.eval g = .func (.func gf) #[] lb) (hFg : F.fn gf) (eg : ∀ args w, (callFunc gf args).run P w = .ok (.enter gf args) w)
    (h : ∀ fn, F.fn fn → ∀ rec : LoopState → Option Code → Loop, RecIs rec fn a.tmps ps assign body w.heap.size → CallsIn F (n - 1) P gf (#[.func (.yield (w.heap.size + 1)) #[] #[]] ++ lb) ((w.alloc (.deferred (some []))).alloc (.loop (rec .ready none)))
      (RangeEnd F n P Q { a with defers := { target := .collected w.heap.size, args := #[] } :: a.defers } (w.heap.size + 1) w.heap.size rec)) :
    (Code.rangeFunc g ps assign body).wpIn F n P Q a w := by
  refine wpIn_rangeFunc ?_
  intro fn hfn
  rw [hro]
  obtain ⟨W1, hW1⟩ : ∃ W1, W1 = (w.alloc (.deferred (some []))).alloc (.loop (recOf fn a.tmps ps assign body w.heap.size .ready none)) := ⟨_, rfl⟩
  refine ⟨w.heap.size + 1, [{ target := .collected w.heap.size, args := #[] }], W1, { target := .fn (.func gf) lb, args := #[.func (.yield (w.heap.size + 1)) #[] #[]] }, W1, gf,
    #[.func (.yield (w.heap.size + 1)) #[] #[]] ++ lb, W1, hW1 ▸ run_enterLoop_outer _ _ _ _ _, ?_, ?_, ?_, fun _ => h1, ?_⟩
  · simp only [resolve, hg]
    simp [go_sem]
  · intro f' hf'; simp [Target.leads] at hf'; subst hf'; exact hFg
  · simp [invoke, go_sem, eg]
  · rw [hW1]
    refine (h fn hfn _ rfl).mono ?_
    rintro e W ⟨⟨v, rfl⟩, hD, ⟨hl, hq⟩ | ⟨c, hl, hq⟩⟩
    · exact ⟨none, _, run_endLoop (P := P) hl (by simp [recOf]), hq⟩
    · exact ⟨some c, _, run_endLoop (P := P) hl (by simp [recOf]), hq⟩

/-- What is asked at a round's end. -/
def RoundEnd (l : Nat) (rec : LoopState → Option Code → Loop) (R : Ending → World → Prop) : Exit → Act → World → Prop
  | .normal, _, w => w.heap[l]? = some (.loop (rec .busy none)) ∧ R (.returned (.bool true)) (w.putObj l (.loop (rec .ready none)))
  | .ret, _, w => w.heap[l]? = some (.loop (rec .busy none)) ∧ R (.returned (.bool false)) (w.putObj l (.loop (rec .done (some .ret))))
  | .exit id, _, w => w.heap[l]? = some (.loop (rec .busy none)) ∧ R (.returned (.bool false)) (w.putObj l (.loop (rec .done (some (.exit id)))))
  | .goto t, _, w => w.heap[l]? = some (.loop (rec .busy none)) ∧ R (.returned (.bool false)) (w.putObj l (.loop (rec .done (some (.goto t)))))
  | .panic _, _, _ => False
  | .outgrown, _, _ => False

theorem yieldAt_round {F : Fence} {m : Nat} {P : Program} {l : Nat} {rec : LoopState → Option Code → Loop} {fn : FuncId} {tmps : Array Value} {ps : Array Tmp} {assign body : Code} {D : Nat} {args : Array Value} {W : World} {R : Ending → World → Prop}
    (hrec : RecIs rec fn tmps ps assign body D) (hl : W.heap[l]? = some (.loop (rec .ready none))) (hs : args.size = ps.size) (hF : F.fn fn)
    (h : assign.wpIn (F.inRound l) m P (Exit.then (fun a₁ w₁ => w₁.heap[l]? = some (.loop (rec .ready none)) ∧ body.wpIn (F.inRound l) m P (RoundEnd l rec R) a₁ (w₁.putObj l (.loop (rec .busy none)))) (fun _ _ _ => False))
      { tmps := (ps.zip args).foldl (fun tmps (t, a) => tmps.setIfInBounds t a) tmps, defers := [] } W) :
    YieldAt F m P l args W R := by
  unfold RecIs at hrec
  subst hrec
  refine ⟨fn, _, assign, body, run_yield hl hs, roundIn_of_wpIn hF (wpIn_mono h ?_)⟩
  intro e a₁ w₁ hq
  cases e with
  | normal =>
    obtain ⟨hl1, hb⟩ := hq
    refine ⟨_, run_beginRound hl1 rfl, wpIn_mono hb ?_⟩
    intro e2 a2 w2 hq2
    cases e2 with
    | normal => exact ⟨_, _, run_endRound none hq2.1, hq2.2⟩
    | ret => exact ⟨_, _, run_endRound (some .ret) hq2.1, hq2.2⟩
    | exit id => exact ⟨_, _, run_endRound (some (.exit id)) hq2.1, hq2.2⟩
    | goto t => exact ⟨_, _, run_endRound (some (.goto t)) hq2.1, hq2.2⟩
    | panic c => exact hq2
    | outgrown => exact hq2
  | ret => exact hq.elim
  | exit id => exact hq.elim
  | goto t => exact hq.elim
  | panic c => exact hq.elim
  | outgrown => exact hq.elim
end Go.Proofs.YtnhgichiedninaaGreatDoor

namespace Go.Proofs.YtnhgichiedninaaGreatDoor
set_option linter.unusedSimpArgs false
set_option linter.unusedVariables false
open Go.RowKit Go.Shelf
attribute [local go_sem] Oper.semAt_some

abbrev spanV (s : SpanV) : Value := .agg #[.int .i64 s.file, .int .i64 s.frm, .int .i64 s.cnt]

set_option maxRecDepth 100000 in
set_option maxHeartbeats 2000000 in
theorem row_iter (a : Option Addr) (c : Nat) (l : List FileV) (piece i : Int) (Bi Bw lp m : Nat) (hm : 1 ≤ m) (Inv : List SpanV → World → Prop)
    (hI : ∀ T W, Inv T W → Blk W Bi #[.int .i64 i] 3 ∧ Blk W Bw #[.slice a l.length c, .int .i64 piece] 221 ∧ FilesAt W a c l)
    (hN : ∀ T W W', Inv T W → New W W' → Inv T W')
    (hY : ∀ T s W, Inv T W → T.length < 40 → YieldAt Fence.wide (m - 1) Tryz.prog lp #[spanV s] W fun e W' => e = .returned (.bool true) ∧ Inv (T ++ [s]) W' ∧ ∀ b cs, Blk W b cs 60 → Blk W' b cs 60)
    (W : World) (h0 : Inv [] W) (hl : l.length ≤ 40) (hf : ∀ f ∈ l, 0 ≤ f.len) (hs : sumOf l ≤ 65536) (p0 : 16 ≤ piece) (p1 : piece ≤ 1024) (i0 : 0 ≤ i) (i1 : i ≤ 70000) :
    CallsIn Fence.wide m Tryz.prog 223 #[.func (.yield lp) #[] #[], .pointer (some ⟨Bi, 0, none⟩), .pointer (some ⟨Bw, 0, none⟩)] W fun e W' => (∃ v, e = .returned v) ∧ Inv (rowGo (i * piece) ((i + 1) * piece) 0 0 l) W' := by
  refine callsIn_of_wp Tryz.func223 rfl trivial ?_ rfl
  simp only [Tryz.ntmps223, List.size_toArray, List.length_cons, List.length_nil, Nat.reduceAdd, Nat.reduceSub, Array.replicate_succ, Array.replicate_zero, List.push_toArray, List.append_toArray, List.nil_append, List.cons_append]
  obtain ⟨b1, b2, b3⟩ := hI _ _ h0
  have hm1 := b3.room; have hm2 := b3.cap
  unfold maxLen at hm2
  have c0 : W.cell? ⟨Bi, 0, none⟩ = some (.int .i64 i) := b1.cellv 0 rfl
  have c1 : W.cell? ⟨Bw, 0, none⟩ = some (.slice a l.length c) := b2.cellv 0 rfl
  have c2 : W.cell? ⟨Bw, 1, none⟩ = some (.int .i64 piece) := b2.cellv 1 rfl
  have HI := hid hI; have HN := hid hN; have HY := hid hY; have H0 := hid h0; have HF := hid hf; have HS := hid hs
  have q0 : 0 ≤ i * piece := Int.mul_nonneg i0 (by omega)
  have q1 : i * piece ≤ 70000 * 1024 := Int.mul_le_mul i1 p1 (by omega) (by omega)
  have q2 : (i + 1) * piece = i * piece + piece := by rw [Int.add_mul, Int.one_mul]
  have hmix : Tryz.prog.follows .mixedOrders = true := by kernel_rfl
  clear hI hN hY h0 b1 b2 b3 hf hs
  gi_wp2
  gi_region
  gi_wp2
  gi_loopw [23, 6] (fun k b wr => ∃ (j : Nat) (T : List SpanV), k = .int .i64 j ∧ b = .int .i64 (sumOf (l.take j)) ∧ j ≤ l.length ∧ T.length ≤ j ∧ T ++ rowGo (i * piece) ((i + 1) * piece) (sumOf (l.take j)) j (l.drop j) = rowGo (i * piece) ((i + 1) * piece) 0 0 l ∧ Inv T wr) (fun k _ _ => l.length - (intOf k).toNat)
  case atStart => exact ⟨0, [], rfl, rfl, by omega, by simp, by simp [sumOf], HN.out _ _ _ H0.out (Mod.drew (Mod.refl _ _))⟩
  case round =>
    obtain ⟨j, T, rfl, rfl, hj, hT, hgo, hinv⟩ := hrel
    have HG := hid hgo
    have HV := hid hinv
    obtain ⟨b1, b2, b3⟩ := HI.out _ _ hinv
    clear hgo hinv
    by_cases hlt : j < l.length
    · obtain ⟨bb, oo, rfl, hbb, hcc⟩ := b3.get (by omega)
      obtain ⟨pa, pc, g0, g1, g2, -, -⟩ := hcc j hlt
      have hsn := sum_next hlt
      have hm0 := sum_mono l HF.out j
      have hm1' := sum_mono l HF.out (j + 1)
      have HD := hid (List.drop_eq_getElem_cons hlt)
      have hfl := HF.out _ (List.getElem_mem hlt)
      obtain ⟨f, hfe⟩ : ∃ f, f = l[j] := ⟨_, rfl⟩
      rw [← hfe] at g0 g1 g2 hsn HD hfl
      obtain ⟨B, hB⟩ : ∃ B, B = sumOf (l.take j) := ⟨_, rfl⟩
      rw [hsn] at hm1'
      rw [← hB] at hsn hm0 hm1' HG ⊢
      have hsn2 := HS.out
      have s0 : 0 ≤ B := hm0.1
      have s1 : B + f.len ≤ 65536 := by omega
      have HSN := hid hsn
      clear b1 b2 b3 hcc hfe hB hsn hm0 hm1' hsn2
      by_cases hab : max (i * piece) B < min (i * piece + piece) (B + f.len)
      · have HGN := hid (show rowGo (i * piece) ((i + 1) * piece) B j (List.drop j l) = ⟨j, max (i * piece) B - B, min (i * piece + piece) (B + f.len) - max (i * piece) B⟩ :: rowGo (i * piece) ((i + 1) * piece) (B + f.len) (j + 1) (List.drop (j + 1) l) by
          rw [HD.out, rowGo, q2, if_pos hab]
          rfl)
        gi_wp2
        gi_region
        obtain ⟨fn, tmps, assign, body, hy, hR⟩ := HY.out T ⟨j, max (i * piece) B - B, min (i * piece + piece) (B + f.len) - max (i * piece) B⟩ (wr.alloc (.cells #[.slice pa f.path.length pc, .int .i64 f.len, .bool f.pad] 60)).drew (HN.out _ _ _ HV.out ((Mod.alloc (Mod.refl _ _) _).drew)) (by omega)
        have HR := hid hR
        clear hR
        gi_wp2
        refine HR.out.mono ?_
        rintro e W2 ⟨rfl, hi2, hk2⟩
        have HI2 := hid hi2
        have z1 : W2.cell? ⟨wr.heap.size, 1, none⟩ = some (.int .i64 f.len) := (hk2 _ _ (Blk.drew (Blk.new wr #[.slice pa f.path.length pc, .int .i64 f.len, .bool f.pad] 60))).cellv 1 rfl
        clear hi2 hk2
        gi_wp2
        go_roundw
        case rel => exact ⟨j + 1, T ++ [⟨j, max (i * piece) B - B, min (i * piece + piece) (B + f.len) - max (i * piece) B⟩], by simp, by rw [HSN.out], by omega, by simp; omega, by rw [← HG.out, HGN.out, HSN.out]; simp, HI2.out⟩
        case measure => simp [intOf]; omega
      · have HGN := hid (show rowGo (i * piece) ((i + 1) * piece) B j (List.drop j l) = rowGo (i * piece) ((i + 1) * piece) (B + f.len) (j + 1) (List.drop (j + 1) l) by
          rw [HD.out, rowGo, q2, if_neg hab]
          rfl)
        have hab2 : decide (max (i * piece) B < min (i * piece + piece) (B + f.len)) = false := decide_eq_false hab
        gi_wp2
        gi_region
        gi_wp2
        refine ⟨fun _ h => (by cases h), ?_⟩
        gi_wp2
        go_roundw
        case rel => exact ⟨j + 1, T, by simp, by rw [HSN.out], by omega, by omega, by rw [← HG.out, HGN.out, HSN.out], HN.out _ _ _ HV.out ((Mod.alloc (Mod.refl _ _) _).drew)⟩
        case measure => simp [intOf]; omega
    · have hd : l.drop j = [] := List.drop_of_length_le (by omega)
      rw [hd] at HG
      clear b1 b2 b3 hd
      gi_wp2
      go_end0
      refine ⟨⟨_, rfl⟩, ?_⟩
      rw [← HG.out]
      simpa [rowGo] using HV.out
set_option maxRecDepth 100000 in
set_option maxHeartbeats 2000000 in
theorem ap_iter (a : Option Addr) (c : Nat) (l : List FileV) (piece i : Int) (Bi Bw lp m : Nat) (hm : 1 ≤ m) (hne : Bw ≠ Bi) (Inv : List SpanV → World → Prop)
    (hI : ∀ T W, Inv T W → Blk W Bw #[.slice a l.length c, .int .i64 piece] 220 ∧ FilesAt W a c l)
    (hN : ∀ T W W', Inv T W → Mod (fun k => k = Bi) W W' → Inv T W')
    (hY : ∀ T s W, Inv T W → T.length < 40 → YieldAt Fence.wide (m - 1) Tryz.prog lp #[spanV s] W fun e W' => e = .returned (.bool true) ∧ Inv (T ++ [s]) W' ∧ ∀ b cs, Blk W b cs 60 → Blk W' b cs 60)
    (W : World) (h0 : Inv [] W) (hbi : Blk W Bi #[.int .i64 i] 3) (hl : l.length ≤ 40) (hf : ∀ f ∈ l, 0 ≤ f.len ∧ f.len ≤ 65536) (p0 : 16 ≤ piece) (p1 : piece ≤ 1024) (i0 : 0 ≤ i) (i1 : i ≤ 70000) :
    CallsIn Fence.wide m Tryz.prog 217 #[.func (.yield lp) #[] #[], .pointer (some ⟨Bw, 0, none⟩), .pointer (some ⟨Bi, 0, none⟩)] W fun e W' => (∃ v, e = .returned v) ∧ Inv (apGo piece i 0 l) W' := by
  refine callsIn_of_wp Tryz.func217 rfl trivial ?_ rfl
  simp only [Tryz.ntmps217, List.size_toArray, List.length_cons, List.length_nil, Nat.reduceAdd, Nat.reduceSub, Array.replicate_succ, Array.replicate_zero, List.push_toArray, List.append_toArray, List.nil_append, List.cons_append]
  obtain ⟨b2, b3⟩ := hI _ _ h0
  have hm1 := b3.room; have hm2 := b3.cap
  unfold maxLen at hm2
  have c1 : W.cell? ⟨Bw, 0, none⟩ = some (.slice a l.length c) := b2.cellv 0 rfl
  have HI := hid hI; have HN := hid hN; have HY := hid hY; have H0 := hid h0; have HF := hid hf; have HBI := hid hbi
  have hmix : Tryz.prog.follows .mixedOrders = true := by kernel_rfl
  clear hI hN hY h0 b2 b3 hf hbi
  gi_wp2
  gi_loopw [11] (fun k wr => ∃ (j : Nat) (x : Int), k = .int .i64 j ∧ j ≤ l.length ∧ 0 ≤ x ∧ x ≤ 70000 ∧ apGo piece x j (l.drop j) = apGo piece i 0 l ∧ Blk wr Bi #[.int .i64 x] 3 ∧ Inv [] wr) (fun k _ => l.length - (intOf k).toNat)
  case atStart => exact ⟨0, i, rfl, by omega, i0, i1, rfl, HBI.out, H0.out⟩
  case round =>
    obtain ⟨j, x, rfl, hj, x0, x1, hgo, hbi, hinv⟩ := hrel
    have HG := hid hgo
    have HV := hid hinv
    have HB := hid hbi
    obtain ⟨b2, b3⟩ := HI.out _ _ hinv
    clear hgo hinv
    by_cases hlt : j < l.length
    · obtain ⟨bb, oo, rfl, hbb, hcc⟩ := b3.get (by omega)
      obtain ⟨pa, pc, g0, g1, g2, -, -⟩ := hcc j hlt
      have HD := hid (List.drop_eq_getElem_cons hlt)
      have hfl := HF.out _ (List.getElem_mem hlt)
      obtain ⟨f, hfe⟩ : ∃ f, f = l[j] := ⟨_, rfl⟩
      rw [← hfe] at g0 g1 g2 HD hfl
      obtain ⟨f0, f1⟩ := hfl
      have HCT := hid (fun w => count_any (some ⟨bb, oo, none⟩) l.length c piece pa pc f w f0 f1 p0 p1)
      have hcb := count_bound f0 f1 p0 p1
      obtain ⟨ct, hct⟩ : ∃ ct, ct = countOf f piece := ⟨_, rfl⟩
      rw [← hct] at HCT hcb
      have HC := hid hct
      obtain ⟨c0, c1⟩ := hcb
      have k0 := b2.cellv (v := .slice (some ⟨bb, oo, none⟩) l.length c) 0 rfl
      have k1 := b2.cellv (v := .int .i64 piece) 1 rfl
      have k2 := b2.lt
      have HW := hid b2
      clear b2 b3 hcc hfe hbi hct
      by_cases hx : x < ct
      · have q0 : 0 ≤ x * piece := Int.mul_nonneg x0 (by omega)
        have q1 : x * piece ≤ 70000 * 1024 := Int.mul_le_mul x1 p1 (by omega) (by omega)
        have HE := hid (show apGo piece x j (l.drop j) = [⟨j, x * piece, min piece (f.len - x * piece)⟩] by
          rw [HD.out, apGo, if_pos (by rw [← HC.out]; exact hx)])
        gi_wp2_with (refine ⟨trivial, ?_⟩; gi_at_call 216; refine (callsIn_wide.2 (HCT.out _)).mono ?_; rintro e w1 ⟨rfl, n1⟩; have N1 := hid (Mod.trans ((Mod.refl (fun _ => False) wr).alloc _) n1); have d0 := (New.blk N1.out HB.out).cellv (v := .int .i64 x) 0 rfl; have d1 := (New.blk N1.out HW.out).cellv (v := .int .i64 piece) 1 rfl; have d2 : w1.cell? ⟨wr.heap.size, 1, none⟩ = some (.int .i64 f.len) := (n1.blk (Blk.new wr #[.slice pa f.path.length pc, .int .i64 f.len, .bool f.pad] 60)).cellv 1 rfl; have d3 := (New.blk N1.out HB.out).frz 0; have d4 := (New.blk N1.out HB.out).lt; clear n1; obtain ⟨fn, tmps, assign, body, hy, hR⟩ := HY.out [] ⟨j, x * piece, min piece (f.len - x * piece)⟩ w1 (HN.out _ _ _ HV.out (New.mod N1.out)) (by simp); have HR := hid hR; clear hR)
        refine HR.out.mono ?_
        rintro e W2 ⟨rfl, hi2, -⟩
        have HI2 := hid hi2
        clear hi2
        gi_wp2
        refine bodyPost_ret (results_none rfl _ _ _) rfl ?_
        refine ⟨⟨_, rfl⟩, ?_⟩
        rw [← HG.out, HE.out]
        exact HI2.out
      · have HE := hid (show apGo piece x j (l.drop j) = apGo piece (x - ct) (j + 1) (l.drop (j + 1)) by
          rw [HD.out, apGo, if_neg (by rw [← HC.out]; exact hx), HC.out])
        gi_wp2_with (refine ⟨trivial, ?_⟩; gi_at_call 216; refine (callsIn_wide.2 (HCT.out _)).mono ?_; rintro e w1 ⟨rfl, n1⟩; have N1 := hid (Mod.trans ((Mod.refl (fun _ => False) wr).alloc _) n1); have d0 := (New.blk N1.out HB.out).cellv (v := .int .i64 x) 0 rfl; have d1 := (New.blk N1.out HW.out).cellv (v := .int .i64 piece) 1 rfl; have d2 : w1.cell? ⟨wr.heap.size, 1, none⟩ = some (.int .i64 f.len) := (n1.blk (Blk.new wr #[.slice pa f.path.length pc, .int .i64 f.len, .bool f.pad] 60)).cellv 1 rfl; have d3 := (New.blk N1.out HB.out).frz 0; have d4 := (New.blk N1.out HB.out).lt; clear n1)
        go_roundw
        case rel => exact ⟨j + 1, x - ct, by simp, by omega, by omega, by omega, by rw [← HE.out]; exact HG.out, (New.blk N1.out HB.out).set 0 _, HN.out _ _ _ (HN.out _ _ _ HV.out (New.mod N1.out)) (Mod.set (Mod.refl _ _) _ _ (.inl rfl))⟩
        case measure => simp [intOf]; omega
    · have hd : l.drop j = [] := List.drop_of_length_le (by omega)
      rw [hd] at HG
      clear b2 b3 hd
      gi_wp2
      go_end0
      refine ⟨⟨_, rfl⟩, ?_⟩
      rw [← HG.out]
      simpa [apGo] using HV.out

end Go.Proofs.YtnhgichiedninaaGreatDoor


