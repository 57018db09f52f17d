/-
  Several texts in one, in their build order. A range over a function, whatever the iterator and the body do to memory: the statement's law and the round's. Over any program. Conditions: the loop stands in no other loop's round; the rounds defer nothing. The iterator over the maximal runs of pieces that may be got (package web), whatever the loop's rounds do that go on and leave the client alone. Conditions: as they stand. A region that draws its order, within a round of a range over a function: the held orders of the plain walk serve there too. Over any program. Condition: none of its operations defers. A region that draws its order, in the fence that asks nothing: the held orders of the plain walk serve there too. Over any program. No condition but that what is asked behind it lets nothing out.
-/
import Derived.Test.YtnhgichiedninaaGreatDoorM1
import Derived.RangeFuncNested
import Derived.RangeFuncBound
import Derived.RangeFuncCalls
import Derived.RangeFuncLeaves
import Derived.Shelf.Abstract
import Derived.Shelf.RegionOpen
import Derived.OwnWalkIn
import Derived.TacticsInMore
import Derived.LoopNIn
import Derived.LoopIn
import Derived.Test.YtnhgichiedninaaGreatDoorM6
import Derived.OrdersHeld
import Derived.OrdersIn
import Derived.Deep.RegionHeld
namespace Go.Proofs.YtnhgichiedninaaGreatDoor
set_option linter.unusedSimpArgs false
set_option linter.unusedVariables false
open Go.RowKit Go.Shelf

/-- The loop's record. -/
def recOf (fn : FuncId) (tmps : Array Value) (ps : Array Tmp) (assign body : Code) (D : Nat) (st : LoopState) (pe : Option Code) : Loop :=
  { state := st, pending := pe, fn, tmps, params := ps, assign, body, defers := D }

/-- What the record rec of a loop bears, whatever its state. -/
def RecIs (rec : LoopState → Option Code → Loop) (fn : FuncId) (tmps : Array Value) (ps : Array Tmp) (assign body : Code) (D : Nat) : Prop := rec = recOf fn tmps ps assign body D

theorem Mod.putObj {S : Nat → Prop} {a b : World} (h : Mod S a b) (r : Nat) (o : Obj) (hr : S r ∨ a.heap.size ≤ r) : Mod S a (b.putObj r o) :=
  ⟨h.os, h.tape, h.output, by have := h.size; simpa using this, fun i hi hn => (World.putObj_heap_other (w := b) (r := r) (k := i) (o := o) (fun e => by subst e; rcases hr with hr | hr; exact hn hr; omega)).trans (h.block i hi hn)⟩
theorem Blk.putObj {w : World} {b : Nat} {cs : Array Value} {t : TypeId} {r : Nat} {o : Obj} (hp : b ≠ r) (h : Blk w b cs t) : Blk (w.putObj r o) b cs t :=
  h.of_heap (World.putObj_heap_other hp)

/-- What is asked behind the iterator: it has come to its end, or a round has left the loop by the jump c. -/
def RangeEnd (F : Fence) (n : Nat) (P : Program) (Q : Exit → Act → World → Prop) (a' : Act) (l D : Nat) (rec : LoopState → Option Code → Loop) (e : Ending) (W : World) : Prop :=
  (∃ v, e = .returned v) ∧ W.heap[D]? = some (.deferred (some [])) ∧
    ((W.heap[l]? = some (.loop (rec .ready none)) ∧ Q .normal a' (W.putObj l (.loop (rec .exhausted none)))) ∨
     (∃ c, W.heap[l]? = some (.loop (rec .done (some c))) ∧ c.wpIn F n P Q a' (W.putObj l (.loop (rec .exhausted (some c))))))

theorem wpIn_range {F : Fence} {n : Nat} {P : Program} {g : Operand} {ps : Array Tmp} {assign body : Code} {Q : Exit → Act → World → Prop} {a : Act} {w : World}
    (hro : F.round = none) (h1 : 1 ≤ n) {gf : Nat} {lb : Array Value} (hg : a.eval g = .func (.func gf) #[] lb) (hFg : F.fn gf) (eg : ∀ args w, (callFunc gf args).run P w = .ok (.enter gf args) w)
    (h : ∀ fn, F.fn fn → ∀ rec : LoopState → Option Code → Loop, RecIs rec fn a.tmps ps assign body w.heap.size → CallsIn F (n - 1) P gf (#[.func (.yield (w.heap.size + 1)) #[] #[]] ++ lb) ((w.alloc (.deferred (some []))).alloc (.loop (rec .ready none)))
      (RangeEnd F n P Q { a with defers := { target := .collected w.heap.size, args := #[] } :: a.defers } (w.heap.size + 1) w.heap.size rec)) :
    (Code.rangeFunc g ps assign body).wpIn F n P Q a w := by
  refine wpIn_rangeFunc ?_
  intro fn hfn
  rw [hro]
  obtain ⟨W1, hW1⟩ : ∃ W1, W1 = (w.alloc (.deferred (some []))).alloc (.loop (recOf fn a.tmps ps assign body w.heap.size .ready none)) := ⟨_, rfl⟩
  refine ⟨w.heap.size + 1, [{ target := .collected w.heap.size, args := #[] }], W1, { target := .fn (.func gf) lb, args := #[.func (.yield (w.heap.size + 1)) #[] #[]] }, W1, gf,
    #[.func (.yield (w.heap.size + 1)) #[] #[]] ++ lb, W1, hW1 ▸ run_enterLoop_outer _ _ _ _ _, ?_, ?_, ?_, fun _ => h1, ?_⟩
  · simp only [resolve, hg]
    simp [go_sem]
  · intro f' hf'; simp [Target.leads] at hf'; subst hf'; exact hFg
  · simp [invoke, go_sem, eg]
  · rw [hW1]
    refine (h fn hfn _ rfl).mono ?_
    rintro e W ⟨⟨v, rfl⟩, hD, ⟨hl, hq⟩ | ⟨c, hl, hq⟩⟩
    · exact ⟨none, _, run_endLoop (P := P) hl (by simp [recOf]), hq⟩
    · exact ⟨some c, _, run_endLoop (P := P) hl (by simp [recOf]), hq⟩

/-- What is asked at a round's end. -/
def RoundEnd (l : Nat) (rec : LoopState → Option Code → Loop) (R : Ending → World → Prop) : Exit → Act → World → Prop
  | .normal, _, w => w.heap[l]? = some (.loop (rec .busy none)) ∧ R (.returned (.bool true)) (w.putObj l (.loop (rec .ready none)))
  | .ret, _, w => w.heap[l]? = some (.loop (rec .busy none)) ∧ R (.returned (.bool false)) (w.putObj l (.loop (rec .done (some .ret))))
  | .exit id, _, w => w.heap[l]? = some (.loop (rec .busy none)) ∧ R (.returned (.bool false)) (w.putObj l (.loop (rec .done (some (.exit id)))))
  | .goto t, _, w => w.heap[l]? = some (.loop (rec .busy none)) ∧ R (.returned (.bool false)) (w.putObj l (.loop (rec .done (some (.goto t)))))
  | .panic _, _, _ => False
  | .outgrown, _, _ => False

theorem yieldAt_round {F : Fence} {m : Nat} {P : Program} {l : Nat} {rec : LoopState → Option Code → Loop} {fn : FuncId} {tmps : Array Value} {ps : Array Tmp} {assign body : Code} {D : Nat} {args : Array Value} {W : World} {R : Ending → World → Prop}
    (hrec : RecIs rec fn tmps ps assign body D) (hl : W.heap[l]? = some (.loop (rec .ready none))) (hs : args.size = ps.size) (hF : F.fn fn)
    (h : assign.wpIn (F.inRound l) m P (Exit.then (fun a₁ w₁ => w₁.heap[l]? = some (.loop (rec .ready none)) ∧ body.wpIn (F.inRound l) m P (RoundEnd l rec R) a₁ (w₁.putObj l (.loop (rec .busy none)))) (fun _ _ _ => False))
      { tmps := (ps.zip args).foldl (fun tmps (t, a) => tmps.setIfInBounds t a) tmps, defers := [] } W) :
    YieldAt F m P l args W R := by
  unfold RecIs at hrec
  subst hrec
  refine ⟨fn, _, assign, body, run_yield hl hs, roundIn_of_wpIn hF (wpIn_mono h ?_)⟩
  intro e a₁ w₁ hq
  cases e with
  | normal =>
    obtain ⟨hl1, hb⟩ := hq
    refine ⟨_, run_beginRound hl1 rfl, wpIn_mono hb ?_⟩
    intro e2 a2 w2 hq2
    cases e2 with
    | normal => exact ⟨_, _, run_endRound none hq2.1, hq2.2⟩
    | ret => exact ⟨_, _, run_endRound (some .ret) hq2.1, hq2.2⟩
    | exit id => exact ⟨_, _, run_endRound (some (.exit id)) hq2.1, hq2.2⟩
    | goto t => exact ⟨_, _, run_endRound (some (.goto t)) hq2.1, hq2.2⟩
    | panic c => exact hq2
    | outgrown => exact hq2
  | ret => exact hq.elim
  | exit id => exact hq.elim
  | goto t => exact hq.elim
  | panic c => exact hq.elim
  | outgrown => exact hq.elim
end Go.Proofs.YtnhgichiedninaaGreatDoor

namespace Go.Proofs.YtnhgichiedninaaGreatDoor
set_option linter.unusedSimpArgs false
set_option linter.unusedVariables false
open Go.RowKit Go.Shelf
attribute [local go_sem] Oper.semAt_some

set_option maxRecDepth 100000 in
theorem cruns_any (B : Nat) (w : World) : Calls Tryz.prog 78 #[.pointer (some ⟨B, 0, none⟩)] w fun e w' => e = .returned (.func (.func 106) #[] #[.pointer (some ⟨w.heap.size, 0, none⟩)]) ∧ w' = w.alloc (.cells #[.pointer (some ⟨B, 0, none⟩)] 27) := by
  have hmf : ∀ (fn : Fn) (first cap : Array Value) (w : World), (Instr.makeFunc fn first cap).run Tryz.prog w = .ok (.func fn first cap) w := fun _ _ _ _ => rfl
  go_enter Tryz.func78, Tryz.ntmps78
  go_wp2
  go_ret
  exact ⟨rfl, rfl⟩
theorem free_split (c : CliV) (i : Nat) : (c.free i = true ∧ bitL c.want i = true ∧ flyB c.seeds i = false) ∨ (c.free i = false ∧ bitL c.want i = false) ∨ (c.free i = false ∧ bitL c.want i = true ∧ flyB c.seeds i = true) := by
  unfold CliV.free
  cases bitL c.want i <;> cases flyB c.seeds i <;> simp
set_option maxRecDepth 100000 in
set_option maxHeartbeats 4000000 in
theorem cruns_iter (B SB cap MB : Nat) (ps : List Nat) (c : CliV) (G : List (Value × Value)) (X lp m : Nat) (hm : 1 ≤ m) (Inv : List (Nat × Nat) → World → Prop)
    (hI : ∀ T W, Inv T W → CliAt W B SB cap MB ps c G ∧ Blk W X #[.pointer (some ⟨B, 0, none⟩)] 27)
    (hN : ∀ T W W', Inv T W → New W W' → Inv T W')
    (hY : ∀ T (r : Nat × Nat) W, Inv T W → (∃ rest, T ++ r :: rest = runsF c.free c.n 0) → YieldAt Fence.wide (m - 1) Tryz.prog lp #[.agg #[.int .i64 r.1, .int .i64 r.2]] W fun e W' => e = .returned (.bool true) ∧ Inv (T ++ [r]) W')
    (W : World) (h0 : Inv [] W) :
    CallsIn Fence.wide m Tryz.prog 106 #[.func (.yield lp) #[] #[], .pointer (some ⟨X, 0, none⟩)] W fun e W' => (∃ v, e = .returned v) ∧ Inv (runsF c.free c.n 0) W' := by
  refine callsIn_of_wp Tryz.func106 rfl trivial ?_ rfl
  simp only [Tryz.ntmps106, List.size_toArray, List.length_cons, List.length_nil, Nat.reduceAdd, Nat.reduceSub, Array.replicate_succ, Array.replicate_zero, List.push_toArray, List.append_toArray, List.nil_append, List.cons_append]
  have HI := hid hI; have HN := hid hN; have HY := hid hY; have H0 := hid h0
  have hn1 := (hI _ _ h0).1.n1
  have HHA := hid (fun (i : Nat) W (q : CliAt W B SB cap MB ps c G) (hi : i < c.n) => chas_any B SB cap MB ps c G i W q hi)
  have HFL := hid (fun (i : Nat) W (q : CliAt W B SB cap MB ps c G) => cflying_any B SB cap MB ps c G i W q)
  clear hI hN hY h0
  gi_wp2
  gi_loopw [3] (fun x wr => ∃ (i : Nat) (T : List (Nat × Nat)), x = .int .i64 i ∧ i ≤ c.n + 1 ∧ T ++ runsF c.free c.n i = runsF c.free c.n 0 ∧ Inv T wr) (fun x _ => c.n + 1 - (intOf x).toNat)
  case atStart => exact ⟨0, [], rfl, by omega, rfl, H0.out⟩
  case round =>
    obtain ⟨i, T, rfl, hi, hT, hv⟩ := hrel
    obtain ⟨hc, hx⟩ := HI.out _ _ hv
    have HV := hid hv; have HT := hid hT
    have x0 := hx.cellv 0 rfl; have xl := hx.lt
    have c1 := hc.row.cellv 1 rfl; have cl := hc.row.lt
    by_cases hlt : i < c.n
    · obtain ⟨L, hL⟩ : ∃ L, L = lenF c.free i (c.n - i) := ⟨_, rfl⟩
      have HL := hid hL
      have HLE := hid (show L ≤ c.n - i by rw [hL]; exact lenF_le _ _ _)
      have HLA := hid (show ∀ j, j < L → c.free (i + j) = true by rw [hL]; exact fun j hj => lenF_all _ _ _ j hj)
      have HLN := hid (show L < c.n - i → c.free (i + L) = false by rw [hL]; exact lenF_end _ _ _)
      have HC := hid hc; have HX := hid hx
      clear hL hT hv hc hx
      gi_wp2
      have KB := hid (Blk.new wr #[.int .i64 i, .int .i64 0] 34)
      obtain ⟨W0, hW0⟩ : ∃ W0, W0 = wr := ⟨_, rfl⟩
      subst hW0
      clear x0 xl c1 cl
      gi_loopw [3] (fun x wq => ∃ (k j : Nat), x = .int .i64 k ∧ k = i + j ∧ j ≤ L ∧ New W0 wq ∧ Blk wq W0.heap.size #[.int .i64 i, .int .i64 j] 34) (fun x _ => c.n + 1 - (intOf x).toNat)
      case atStart => exact ⟨i, 0, rfl, by omega, by omega, (Mod.refl _ _).alloc _, KB.out⟩
      case round =>
        obtain ⟨k, j, rfl, hkj, hj, hn, hb⟩ := hrel
        have HB := hid hb; have HNW := hid hn; have HKJ := hid hkj
        have hle := HLE.out
        have x0 := (New.blk hn HX.out).cellv 0 rfl; have xl := (New.blk hn HX.out).lt
        have hcl := HC.out.new hn
        have c1 := hcl.row.cellv 1 rfl; have cl := hcl.row.lt
        have HCL := hid hcl
        have b0 := hb.cellv 0 rfl; have b1 := hb.cellv 1 rfl; have bl := hb.lt; have bf := hb.frz 1
        have hkb : k ≤ 4096 := by omega
        by_cases hjl : j < L
        · have hkn : k < c.n := by omega
          have hf := HLA.out j hjl
          rw [← hkj] at hf
          rcases free_split c k with ⟨-, f1, f2⟩ | ⟨q, -⟩ | ⟨q, -⟩
          · as_aux_lemma =>
            have HA1 := HHA.out k wr hcl hkn
            rw [f1] at HA1
            have HA2 := fun W (q : New wr W) => HFL.out k W (hcl.new q)
            rw [f2] at HA2
            have HA1 := hid HA1; have HA2 := hid HA2
            clear hn hb hcl hf f1 f2 hkj
            gi_wp2_with (first | (refine ⟨trivial, ?_⟩; gi_at_call 107; refine (callsIn_wide.2 HA1.out).mono ?_; rintro e w1 ⟨rfl, n1⟩; have N1 := hid n1; have y0 := New.cellv n1 x0; have yl : X < w1.heap.size := Nat.lt_of_lt_of_le xl n1.size; clear n1) | (refine ⟨trivial, ?_⟩; gi_at_call 84; refine (callsIn_wide.2 (HA2.out _ N1.out)).mono ?_; rintro e w2 ⟨rfl, n2⟩; have N2 := hid (N1.out.trans n2); have HB2 := hid (New.blk N2.out HB.out); have d0 := HB2.out.cellv 0 rfl; have d1 := HB2.out.cellv 1 rfl; have dl := HB2.out.lt; have df := HB2.out.frz 1; clear n2) | fail)
            exact ⟨⟨k + 1, j + 1, by simp, by have := HKJ.out; omega, by omega, Mod.set (HNW.out.trans N2.out) _ _ (.inr (Nat.le_refl _)), Blk.row (HB2.out.set 1 _) (by simp)⟩, by simp [intOf]; omega⟩
          · rw [q] at hf; cases hf
          · rw [q] at hf; cases hf
        · obtain rfl : j = L := by omega
          by_cases hkn : k < c.n
          · have hf := HLN.out (by omega)
            rw [← hkj] at hf
            rcases free_split c k with ⟨q, -⟩ | ⟨-, f1⟩ | ⟨-, f1, f2⟩
            · rw [q] at hf; cases hf
            · as_aux_lemma =>
              have HA1 := HHA.out k wr hcl hkn
              rw [f1] at HA1
              have HA1 := hid HA1
              clear hn hb hcl hf f1 hkj
              gi_wp2_with fail
              refine ⟨trivial, (callsIn_wide.2 HA1.out).mono ?_⟩
              rintro e w2 ⟨rfl, n2⟩
              have N2 := hid n2; have HB2 := hid (New.blk N2.out HB.out); have d0 := HB2.out.cellv 0 rfl; have d1 := HB2.out.cellv 1 rfl; have dl := HB2.out.lt
              clear n2
              by_cases hj0 : j = 0
              · have hj0I : ¬ (0 : Int) < (j : Int) := by omega
                have HJ0 := hid hj0
                clear hj0
                (gi_wp2_with fail; refine ⟨trivial, ?_⟩; gi_wp2_with fail)
                first | (focus (go_roundw; done)) | (refine ⟨(fun _ q => by cases q), ?_⟩; gi_wp2) | skip
                go_roundw
                case rel => exact ⟨i + 1, T, by have := HKJ.out; have := HJ0.out; simp; omega, by omega, by rw [← runsF_none hlt (by rw [← HL.out]; exact HJ0.out)]; exact HT.out, HN.out _ _ _ HV.out (HNW.out.trans N2.out)⟩
                case measure => have := HKJ.out; simp [intOf]; omega
              · have hj0I : (0 : Int) < (j : Int) := by omega
                have hrs := runsF_some hlt (by rw [← HL.out]; exact hj0)
                rw [← HL.out] at hrs
                have HRS := hid hrs
                clear hrs
                obtain ⟨fn, tmps, assign, body, hy, hR⟩ := HY.out T (i, j) w2 (HN.out _ _ _ HV.out (HNW.out.trans N2.out)) ⟨_, by rw [← HRS.out]; exact HT.out⟩
                have HRR := hid hR
                clear hR
                simp only at hy
                (gi_wp2_with fail; refine ⟨trivial, ?_⟩; gi_wp2_with fail)
                refine HRR.out.mono ?_
                rintro e W2 ⟨rfl, hi2⟩
                have HI2 := hid hi2
                clear hi2
                gi_wp2
                go_roundw
                case rel => exact ⟨i + j + 1, T ++ [(i, j)], by have := HKJ.out; simp; omega, by have := HLE.out; omega, by rw [List.append_assoc, List.singleton_append, ← HRS.out]; exact HT.out, HI2.out⟩
                case measure => have := HKJ.out; simp [intOf]; omega
            · as_aux_lemma =>
              have HA1 := HHA.out k wr hcl hkn
              rw [f1] at HA1
              have HA2 := fun W (q : New wr W) => HFL.out k W (hcl.new q)
              rw [f2] at HA2
              have HA1 := hid HA1; have HA2 := hid HA2
              clear hn hb hcl hf f1 f2 hkj
              gi_wp2_with fail
              refine ⟨trivial, (callsIn_wide.2 HA1.out).mono ?_⟩
              rintro e w1 ⟨rfl, n1⟩
              have N1 := hid n1; have y0 := New.cellv n1 x0; have yl : X < w1.heap.size := Nat.lt_of_lt_of_le xl n1.size
              clear n1
              gi_wp2_with fail
              refine ⟨trivial, (callsIn_wide.2 (HA2.out _ N1.out)).mono ?_⟩
              rintro e w2 ⟨rfl, n2⟩
              have N2 := hid (N1.out.trans n2); have HB2 := hid (New.blk N2.out HB.out); have d0 := HB2.out.cellv 0 rfl; have d1 := HB2.out.cellv 1 rfl; have dl := HB2.out.lt
              clear n2
              by_cases hj0 : j = 0
              · have hj0I : ¬ (0 : Int) < (j : Int) := by omega
                have HJ0 := hid hj0
                clear hj0
                gi_wp2_with fail
                first | (focus (go_roundw; done)) | (refine ⟨(fun _ q => by cases q), ?_⟩; gi_wp2) | skip
                go_roundw
                case rel => exact ⟨i + 1, T, by have := HKJ.out; have := HJ0.out; simp; omega, by omega, by rw [← runsF_none hlt (by rw [← HL.out]; exact HJ0.out)]; exact HT.out, HN.out _ _ _ HV.out (HNW.out.trans N2.out)⟩
                case measure => have := HKJ.out; simp [intOf]; omega
              · have hj0I : (0 : Int) < (j : Int) := by omega
                have hrs := runsF_some hlt (by rw [← HL.out]; exact hj0)
                rw [← HL.out] at hrs
                have HRS := hid hrs
                clear hrs
                obtain ⟨fn, tmps, assign, body, hy, hR⟩ := HY.out T (i, j) w2 (HN.out _ _ _ HV.out (HNW.out.trans N2.out)) ⟨_, by rw [← HRS.out]; exact HT.out⟩
                have HRR := hid hR
                clear hR
                simp only at hy
                gi_wp2_with fail
                refine HRR.out.mono ?_
                rintro e W2 ⟨rfl, hi2⟩
                have HI2 := hid hi2
                clear hi2
                gi_wp2
                go_roundw
                case rel => exact ⟨i + j + 1, T ++ [(i, j)], by have := HKJ.out; simp; omega, by have := HLE.out; omega, by rw [List.append_assoc, List.singleton_append, ← HRS.out]; exact HT.out, HI2.out⟩
                case measure => have := HKJ.out; simp [intOf]; omega
          · as_aux_lemma =>
            have hj0 : ¬ j = 0 := by omega
            have N2 := hid (Mod.refl (fun _ => False) wr : New wr wr)
            have HB2 := hid hb
            have d0 := HB2.out.cellv 0 rfl; have d1 := HB2.out.cellv 1 rfl; have dl := HB2.out.lt
            clear hn hb hcl hkj
            have hj0I : (0 : Int) < (j : Int) := by omega
            have hrs := runsF_some hlt (by rw [← HL.out]; exact hj0)
            rw [← HL.out] at hrs
            have HRS := hid hrs
            clear hrs
            obtain ⟨fn, tmps, assign, body, hy, hR⟩ := HY.out T (i, j) wr (HN.out _ _ _ HV.out (HNW.out.trans N2.out)) ⟨_, by rw [← HRS.out]; exact HT.out⟩
            have HRR := hid hR
            clear hR
            simp only at hy
            (gi_wp2_with fail; refine ⟨trivial, ?_⟩; gi_wp2_with fail; refine ⟨trivial, ?_⟩; gi_wp2_with fail)
            refine HRR.out.mono ?_
            rintro e W2 ⟨rfl, hi2⟩
            have HI2 := hid hi2
            clear hi2
            gi_wp2
            go_roundw
            case rel => exact ⟨i + j + 1, T ++ [(i, j)], by have := HKJ.out; simp; omega, by have := HLE.out; omega, by rw [List.append_assoc, List.singleton_append, ← HRS.out]; exact HT.out, HI2.out⟩
            case measure => have := HKJ.out; simp [intOf]; omega
    · have hr := runsF_end (f := c.free) (n := c.n) (i := i) (by omega)
      have HR := hid hr
      clear hr hT hv hc hx
      gi_wp2
      go_end0
      exact ⟨⟨_, rfl⟩, by have := HT.out; rw [HR.out, List.append_nil] at this; rw [← this]; exact HV.out⟩
end Go.Proofs.YtnhgichiedninaaGreatDoor

namespace Go.Proofs.YtnhgichiedninaaGreatDoor
set_option linter.unusedSimpArgs false
set_option linter.unusedVariables false
open Go.RowKit

theorem rows_wide {n : Nat} {P : Program} {row : String} {args : Array Value} {w : World} {R : Value → World → Prop} (h : Rows P row args w R) : RowsIn Fence.wide n P row args w R :=
  fun c cs _ => let ⟨v, w', r, s⟩ := h c cs; ⟨v, w', r, stepsIn_wide.2 s⟩
theorem wpOp_round {l n : Nat} {P : Program} {ops : Array Oper} {Q : Exit → Act → World → Prop} {i : Nat} {K : Act → World → Prop} {a : Act} {w : World} (hnd : ∀ (j : Nat) o c, ops[j]? = some o → o.op ≠ .defer c) (hno : ¬ LetsOut Q)
    (h : wpOp P ops Q i K a w) : wpOpIn (Fence.wide.inRound l) n P ops Q i K a w := by
  unfold wpOp at h
  unfold wpOpIn
  cases ho : ops[i]? with
  | none => rw [ho] at h; exact h
  | some o =>
    rw [ho] at h
    simp only at h ⊢
    by_cases hw : Region.wanted o (yielded ops a.tmps) = true
    · rw [if_pos hw] at h ⊢
      rcases h with h | ⟨-, h⟩
      · unfold Oper.wp at h
        unfold Oper.wpIn
        refine ⟨fun _ _ => trivial, ?_⟩
        rw [Oper.semAt_eq _ _ _ (fun c => hnd i o c ho)]
        generalize (execOp a.eval o).run P w = r at *
        cases r with
        | ok x w' =>
          cases x <;> simp only [Oper.upon, Oper.uponIn] at h ⊢
          all_goals first
            | exact h
            | exact ⟨fun q => (by simp [Fence.wide] at q), CallsIn.inRound l (callsIn_wide.2 h)⟩
            | exact ⟨fun q => (by simp [Fence.wide] at q), rows_wide h⟩
            | exact h.elim
        | halt x w' => cases x <;> simp only [Oper.upon, Oper.uponIn] at h ⊢ <;> exact h
      · exact absurd h hno
    · rw [if_neg hw] at h ⊢
      exact ⟨fun _ _ => trivial, h⟩
theorem wpAny_round {l n : Nat} {P : Program} {ops : Array Oper} {md : Region.Mode} {Q : Exit → Act → World → Prop} (hnd : ∀ (j : Nat) o c, ops[j]? = some o → o.op ≠ .defer c) (hno : ¬ LetsOut Q) :
    ∀ (fuel : Nat) (listed : Array Bool) (a : Act) (w : World), wpAny P md ops Q fuel listed a w → wpAnyIn (Fence.wide.inRound l) n P md ops Q fuel listed a w
  | 0, _, _, _, h => h
  | fuel + 1, listed, a, w, h => ⟨h.1, fun i hi => wpOpIn_mono (fun a w q => wpAny_round hnd hno fuel _ a w q) (wpOp_round hnd hno (h.2 i hi))⟩
theorem wp_region_round {l n id : Nat} {P : Program} {ops : Array Oper} {Q : Exit → Act → World → Prop} {a : Act} {w : World} (S : World → Prop) (hm : P.follows .mixedOrders = true) (hnd : ∀ (j : Nat) o c, ops[j]? = some o → o.op ≠ .defer c) (hno : ¬ LetsOut Q) (hS : S w.drew)
    (h : S w.drew → wpAnyH P .any ops Q S ops.size (Array.replicate ops.size false) a w.drew) : (Code.region id ops true).wpIn (Fence.wide.inRound l) n P Q a w :=
  wpIn_region_any hm (wpAny_round hnd hno _ _ _ _ (wpAny_of_held _ _ _ _ (h hS)))
/-- None of the operations defers. -/
def noDefer (ops : Array Oper) : Bool := ops.all fun o => match o.op with | .defer _ => false | _ => true
theorem noDefer_spec {ops : Array Oper} (h : noDefer ops = true) : ∀ (j : Nat) o c, ops[j]? = some o → o.op ≠ .defer c := by
  intro j o c hj q
  have := Array.all_eq_true_iff_forall_mem.1 h o (Array.mem_of_getElem? hj)
  rw [q] at this
  simp at this
end Go.Proofs.YtnhgichiedninaaGreatDoor

namespace Go.Proofs.YtnhgichiedninaaGreatDoor
set_option linter.unusedSimpArgs false
set_option linter.unusedVariables false
open Go.RowKit

theorem wpOp_wideN {n : Nat} {P : Program} {ops : Array Oper} {Q : Exit → Act → World → Prop} {i : Nat} {K : Act → World → Prop} {a : Act} {w : World} (hno : ¬ LetsOut Q)
    (h : wpOp P ops Q i K a w) : wpOpIn Fence.wide n P ops Q i K a w := by
  unfold wpOp at h
  unfold wpOpIn
  cases ho : ops[i]? with
  | none => rw [ho] at h; exact h
  | some o =>
    rw [ho] at h
    simp only at h ⊢
    by_cases hw : Region.wanted o (yielded ops a.tmps) = true
    · rw [if_pos hw] at h ⊢
      rcases h with h | ⟨-, h⟩
      · unfold Oper.wp at h
        unfold Oper.wpIn
        refine ⟨fun _ _ => trivial, ?_⟩
        rw [show Fence.wide.round = none from rfl, Oper.semAt_none]
        generalize (execOp a.eval o).run P w = r at *
        cases r with
        | ok x w' =>
          cases x <;> simp only [Oper.upon, Oper.uponIn] at h ⊢
          all_goals first
            | exact h
            | exact ⟨fun q => (by simp [Fence.wide] at q), callsIn_wide.2 h⟩
            | exact ⟨fun q => (by simp [Fence.wide] at q), rows_wide h⟩
            | exact h.elim
        | halt x w' => cases x <;> simp only [Oper.upon, Oper.uponIn] at h ⊢ <;> exact h
      · exact absurd h hno
    · rw [if_neg hw] at h ⊢
      exact ⟨fun _ _ => trivial, h⟩
theorem wpAny_wideN {n : Nat} {P : Program} {ops : Array Oper} {md : Region.Mode} {Q : Exit → Act → World → Prop} (hno : ¬ LetsOut Q) :
    ∀ (fuel : Nat) (listed : Array Bool) (a : Act) (w : World), wpAny P md ops Q fuel listed a w → wpAnyIn Fence.wide n P md ops Q fuel listed a w
  | 0, _, _, _, h => h
  | fuel + 1, listed, a, w, h => ⟨h.1, fun i hi => wpOpIn_mono (fun a w q => wpAny_wideN hno fuel _ a w q) (wpOp_wideN hno (h.2 i hi))⟩
theorem wp_region_wideN {n id : Nat} {P : Program} {ops : Array Oper} {Q : Exit → Act → World → Prop} {a : Act} {w : World} (S : World → Prop) (hm : P.follows .mixedOrders = true) (hno : ¬ LetsOut Q) (hS : S w.drew)
    (h : S w.drew → wpAnyH P .any ops Q S ops.size (Array.replicate ops.size false) a w.drew) : (Code.region id ops true).wpIn Fence.wide n P Q a w :=
  wpIn_region_any hm (wpAny_wideN hno _ _ _ _ (wpAny_of_held _ _ _ _ (h hS)))
theorem obz_set {w : World} {k : Nat} {o : Obj} {p : Addr} {u : Value} (hp : k ≠ p.block) (h : w.heap[k]? = some o) : (w.setCell p u).heap[k]? = some o := (Below.heap_setCell w p u k hp).trans h
theorem obz_alloc {w : World} {k : Nat} {o o' : Obj} (h : w.heap[k]? = some o) : (w.alloc o').heap[k]? = some o := (Below.heap_alloc w o' k (Array.getElem?_eq_some_iff.1 h).1).trans h
theorem obz_put {w : World} {k r : Nat} {o o' : Obj} (hp : k ≠ r) (h : w.heap[k]? = some o) : (w.putObj r o').heap[k]? = some o := (World.putObj_heap_other hp).trans h
end Go.Proofs.YtnhgichiedninaaGreatDoor
