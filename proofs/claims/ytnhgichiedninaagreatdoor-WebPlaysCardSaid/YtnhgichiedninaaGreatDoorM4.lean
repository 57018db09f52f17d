/-
  Several texts in one, in their build order. Fields of bits told in plain words: which bit stands where in a row of bytes, a bit that is set, a field's shape. Plain Lean, no program. No condition. The walks of a field's has and set (package bits): a bit read, a bit written. Conditions: the field's bytes lie as told; the number is one of them. A range over a function, whatever the iterator and the body do to memory: the statement's law and the round's. Over any program. Conditions: the loop stands in no other loop's round; the rounds defer nothing. A region that draws its order, within a round of a range over a function: the held orders of the plain walk serve there too. Over any program. Condition: none of its operations defers.
-/
import Derived.Test.YtnhgichiedninaaGreatDoorM1
import Derived.Test.YtnhgichiedninaaGreatDoorM3
import Derived.Test.YtnhgichiedninaaGreatDoorM2
import Derived.RangeFuncNested
import Derived.RangeFuncBound
import Derived.RangeFuncCalls
import Derived.RangeFuncLeaves
import Derived.Shelf.Abstract
import Derived.Shelf.RegionOpen
import Derived.OwnWalkIn
import Derived.TacticsInMore
import Derived.LoopNIn
import Derived.LoopIn
import Derived.OrdersHeld
import Derived.OrdersIn
import Derived.Deep.RegionHeld
namespace Go.Proofs.YtnhgichiedninaaGreatDoor
set_option linter.unusedSimpArgs false
set_option linter.unusedVariables false

/-- The bit j of a byte, from the greatest on. -/
def bitB (b : UInt8) (j : Nat) : Bool := decide (b.toNat / 2 ^ (7 - j) % 2 = 1)
def maskN (j : Nat) : Nat := 128 / 2 ^ j
def setB (b : UInt8) (j : Nat) (v : Bool) : UInt8 := if v then b ||| UInt8.ofNat (maskN j) else b &&& ~~~ (UInt8.ofNat (maskN j))
theorem set_bit (b : UInt8) {i j : Nat} (v : Bool) (hi : i < 8) (hj : j < 8) : bitB (setB b i v) j = if j = i then v else bitB b j := by
  have key : ∀ n : Nat, n < 256 → ∀ i, i < 8 → ∀ j, j < 8 → (bitB (setB (UInt8.ofNat n) i true) j = if j = i then true else bitB (UInt8.ofNat n) j) ∧ (bitB (setB (UInt8.ofNat n) i false) j = if j = i then false else bitB (UInt8.ofNat n) j) := by decide +kernel
  have h := key b.toNat b.toNat_lt i hi j hj
  rw [UInt8.ofNat_toNat] at h
  cases v
  · exact h.2
  · exact h.1
theorem byte_ext {a b : UInt8} (h : ∀ j, j < 8 → bitB a j = bitB b j) : a = b := by
  have key : ∀ n : Nat, n < 256 → n = (if bitB (UInt8.ofNat n) 0 then 128 else 0) + (if bitB (UInt8.ofNat n) 1 then 64 else 0) + (if bitB (UInt8.ofNat n) 2 then 32 else 0) + (if bitB (UInt8.ofNat n) 3 then 16 else 0) + (if bitB (UInt8.ofNat n) 4 then 8 else 0) + (if bitB (UInt8.ofNat n) 5 then 4 else 0) + (if bitB (UInt8.ofNat n) 6 then 2 else 0) + (if bitB (UInt8.ofNat n) 7 then 1 else 0) := by decide +kernel
  have ha := key a.toNat a.toNat_lt
  have hb := key b.toNat b.toNat_lt
  rw [UInt8.ofNat_toNat] at ha hb
  apply UInt8.toNat_inj.1
  rw [ha, hb, h 0 (by omega), h 1 (by omega), h 2 (by omega), h 3 (by omega), h 4 (by omega), h 5 (by omega), h 6 (by omega), h 7 (by omega)]
theorem bit_zero (j : Nat) : bitB 0 j = false := by
  unfold bitB
  rw [decide_eq_false_iff_not]
  show ¬ 0 / 2 ^ (7 - j) % 2 = 1
  rw [Nat.zero_div]
  omega
/-- The bit i of a row of bytes. -/
def bitL (s : List UInt8) (i : Nat) : Bool := bitB (s.getD (i / 8) 0) (i % 8)
def setL (s : List UInt8) (i : Nat) (v : Bool) : List UInt8 := s.set (i / 8) (setB (s.getD (i / 8) 0) (i % 8) v)
theorem setL_len (s : List UInt8) (i : Nat) (v : Bool) : (setL s i v).length = s.length := by unfold setL; simp
theorem bitL_set {s : List UInt8} {i : Nat} (v : Bool) (h : i / 8 < s.length) (j : Nat) : bitL (setL s i v) j = if j = i then v else bitL s j := by
  unfold bitL setL
  rw [List.getD_eq_getElem?_getD, List.getElem?_set]
  by_cases e : i / 8 = j / 8
  · rw [if_pos e, if_pos (by omega)]
    simp only [Option.getD_some]
    rw [set_bit _ _ (by omega) (by omega), e]
    by_cases e2 : j = i
    · subst e2; rw [if_pos rfl, if_pos rfl]
    · rw [if_neg (by omega), if_neg e2]
  · rw [if_neg e, if_neg (by intro q; subst q; exact e rfl), ← List.getD_eq_getElem?_getD]
theorem rows_ext : ∀ {s t : List UInt8}, s.length = t.length → (∀ i, i < 8 * s.length → bitL s i = bitL t i) → s = t := by
  intro s t hl h
  apply List.ext_getElem hl
  intro k h1 h2
  apply byte_ext
  intro j hj
  have := h (8 * k + j) (by omega)
  unfold bitL at this
  rw [show (8 * k + j) / 8 = k by omega, show (8 * k + j) % 8 = j by omega, List.getD_eq_getElem?_getD, List.getD_eq_getElem?_getD, List.getElem?_eq_getElem h1, List.getElem?_eq_getElem h2] at this
  exact this
theorem bitL_zero (k i : Nat) : bitL (List.replicate k 0) i = false := by
  unfold bitL
  rw [List.getD_eq_getElem?_getD, List.getElem?_replicate]
  split <;> exact bit_zero _
/-- A row of bytes that is a field of n bits. -/
structure FieldOf (n : Nat) (s : List UInt8) : Prop where
  len : s.length = (n + 7) / 8
  rest : ∀ i, n ≤ i → bitL s i = false
theorem bitL_out {s : List UInt8} {i : Nat} (h : 8 * s.length ≤ i) : bitL s i = false := by
  unfold bitL
  rw [List.getD_eq_getElem?_getD, List.getElem?_eq_none (by omega)]
  exact bit_zero _
theorem FieldOf.set {n : Nat} {s : List UInt8} (h : FieldOf n s) {i : Nat} (hi : i < n) (v : Bool) : FieldOf n (setL s i v) := by
  have hl := h.len
  refine ⟨by rw [setL_len]; exact hl, fun j hj => ?_⟩
  rw [bitL_set v (by omega), if_neg (by omega)]
  exact h.rest j hj
theorem FieldOf.bit_set {n : Nat} {s : List UInt8} (h : FieldOf n s) {i : Nat} (hi : i < n) (v : Bool) (j : Nat) : bitL (setL s i v) j = if j = i then v else bitL s j :=
  bitL_set v (by have := h.len; omega) j
theorem FieldOf.zero (n : Nat) : FieldOf n (List.replicate ((n + 7) / 8) 0) := ⟨by simp, fun _ _ => bitL_zero _ _⟩
theorem FieldOf.ext {n : Nat} {s t : List UInt8} (h : FieldOf n s) (k : FieldOf n t) (hb : ∀ i, i < n → bitL s i = bitL t i) : s = t := by
  refine rows_ext (h.len.trans k.len.symm) (fun i hi => ?_)
  by_cases hn : i < n
  · exact hb i hn
  · rw [h.rest i (by omega), k.rest i (by omega)]
end Go.Proofs.YtnhgichiedninaaGreatDoor

namespace Go.Proofs.YtnhgichiedninaaGreatDoor
set_option linter.unusedSimpArgs false
set_option linter.unusedVariables false
open Go.RowKit

theorem and_one (b : UInt8) {j : Nat} (hj : j < 8) : (bits .and .u8 ((b.toNat : Int) / 2 ^ (7 - j)) 1 == 1) = bitB b j := by
  have key : ∀ n : Nat, n < 256 → ∀ j : Nat, j < 8 → (bits .and .u8 ((n : Int) / 2 ^ (7 - j)) 1 == 1) = decide (n / 2 ^ (7 - j) % 2 = 1) := by decide +kernel
  exact key b.toNat b.toNat_lt j hj
set_option maxHeartbeats 1000000 in
theorem bhas_any (n : Int) (g c : Nat) (s : List UInt8) (i : Nat) (w : World) (h : ByAt w g s) (hi : i / 8 < s.length) (hl : s.length ≤ 70000) :
    Calls Tryz.prog 105 #[.agg #[.int .i64 n, .slice (some ⟨g, 0, none⟩) s.length c], .int .i64 i] w fun e w' => e = .returned (.bool (bitL s i)) ∧ New w w' := by
  have hc := h.cell hi
  have hlt := h.lt
  obtain ⟨b, hb⟩ : ∃ b, b = s[i / 8] := ⟨_, rfl⟩
  have HB := hid (show bitL s i = bitB b (i % 8) by unfold bitL; rw [hb, List.getD_eq_getElem?_getD, List.getElem?_eq_getElem hi]; rfl)
  rw [← hb] at hc
  have hq : ((i : Int)).tdiv 8 = ((i / 8 : Nat) : Int) := by rw [Int.tdiv_eq_ediv_of_nonneg (by omega)]; omega
  have hq2 : (i : Int) / 8 = ((i / 8 : Nat) : Int) := by omega
  have hr : ((i : Int)).tmod 8 = ((i % 8 : Nat) : Int) := by rw [Int.tmod_eq_emod_of_nonneg (by omega)]; omega
  have hr2 : (i : Int) % 8 = ((i % 8 : Nat) : Int) := by omega
  have ho := and_one b (j := i % 8) (by omega)
  obtain ⟨K, hK⟩ : ∃ K, K = i / 8 := ⟨_, rfl⟩
  obtain ⟨J, hJ⟩ : ∃ J, J = i % 8 := ⟨_, rfl⟩
  rw [← hK] at hc hq hq2
  rw [← hJ] at hr hr2 ho HB
  have hJ8 : J < 8 := by omega
  have hw : IntKind.i64.wrap (7 - (J : Int)) = 7 - (J : Int) := by rw [IntKind.wrap_i64]; omega
  have hn : ((7 : Int) - (J : Int)).toNat = 7 - J := by omega
  have hKl : K < s.length := by omega
  clear h hb hK hJ
  go_enter Tryz.func105, Tryz.ntmps105
  go_wp2
  go_ret
  exact ⟨ret_bool HB.out.symm, (Mod.refl _ _).alloc _⟩
theorem or_mask (b : UInt8) {j : Nat} (hj : j < 8) : bits .or .u8 (b.toNat : Int) (128 / 2 ^ j) = ((setB b j true).toNat : Int) := by
  have key : ∀ n : Nat, n < 256 → ∀ j : Nat, j < 8 → bits .or .u8 (n : Int) (128 / 2 ^ j) = ((setB (UInt8.ofNat n) j true).toNat : Int) := by decide +kernel
  have := key b.toNat b.toNat_lt j hj
  rwa [UInt8.ofNat_toNat] at this
theorem not_mask (b : UInt8) {j : Nat} (hj : j < 8) : bits .andNot .u8 (b.toNat : Int) (128 / 2 ^ j) = ((setB b j false).toNat : Int) := by
  have key : ∀ n : Nat, n < 256 → ∀ j : Nat, j < 8 → bits .andNot .u8 (n : Int) (128 / 2 ^ j) = ((setB (UInt8.ofNat n) j false).toNat : Int) := by decide +kernel
  have := key b.toNat b.toNat_lt j hj
  rwa [UInt8.ofNat_toNat] at this
set_option maxHeartbeats 1000000 in
theorem bset_any (n : Int) (g c : Nat) (s : List UInt8) (i : Nat) (v : Bool) (w : World) (h : ByAt w g s) (hi : i / 8 < s.length) (hl : s.length ≤ 70000) :
    Calls Tryz.prog 125 #[.agg #[.int .i64 n, .slice (some ⟨g, 0, none⟩) s.length c], .int .i64 i, .bool v] w fun e w' => e = .returned (.tuple #[]) ∧ ByAt w' g (setL s i v) ∧ Mod (fun k => k = g) w w' := by
  have hc := h.cell hi
  have hlt := h.lt
  have hfz := h.frz hi
  obtain ⟨b, hb⟩ : ∃ b, b = s[i / 8] := ⟨_, rfl⟩
  have HS := hid (show ∀ v, s.set (i / 8) (setB b (i % 8) v) = setL s i v from fun v => by unfold setL; rw [hb, List.getD_eq_getElem?_getD, List.getElem?_eq_getElem hi]; rfl)
  rw [← hb] at hc
  have hq : ((i : Int)).tdiv 8 = ((i / 8 : Nat) : Int) := by rw [Int.tdiv_eq_ediv_of_nonneg (by omega)]; omega
  have hq2 : (i : Int) / 8 = ((i / 8 : Nat) : Int) := by omega
  have hr : ((i : Int)).tmod 8 = ((i % 8 : Nat) : Int) := by rw [Int.tmod_eq_emod_of_nonneg (by omega)]; omega
  have hr2 : (i : Int) % 8 = ((i % 8 : Nat) : Int) := by omega
  have ho := or_mask b (j := i % 8) (by omega)
  have hn := not_mask b (j := i % 8) (by omega)
  have HB := hid h
  obtain ⟨K, hK⟩ : ∃ K, K = i / 8 := ⟨_, rfl⟩
  obtain ⟨J, hJ⟩ : ∃ J, J = i % 8 := ⟨_, rfl⟩
  rw [← hK] at hc hq hq2 hfz HS
  rw [← hJ] at hr hr2 ho hn HS
  have hJ8 : J < 8 := by omega
  have hKl : K < s.length := by omega
  have HKL := hid hKl
  clear h hb hK hJ
  cases v with
  | true =>
    go_enter Tryz.func125, Tryz.ntmps125
    go_wp2
    go_end0
    exact ⟨rfl, by rw [← HS.out]; exact (HB.out.set HKL.out _).new ((Mod.refl _ _).alloc _), (Mod.set (S := fun k => k = g) (Mod.refl _ _) ⟨g, K, none⟩ _ (.inl rfl)).alloc _⟩
  | false =>
    go_enter Tryz.func125, Tryz.ntmps125
    go_wp2
    go_end0
    exact ⟨rfl, by rw [← HS.out]; exact (HB.out.set HKL.out _).new ((Mod.refl _ _).alloc _), (Mod.set (S := fun k => k = g) (Mod.refl _ _) ⟨g, K, none⟩ _ (.inl rfl)).alloc _⟩
end Go.Proofs.YtnhgichiedninaaGreatDoor

namespace Go.Proofs.YtnhgichiedninaaGreatDoor
set_option linter.unusedSimpArgs false
set_option linter.unusedVariables false
open Go.RowKit Go.Shelf

/-- The loop's record. -/
def recOf (fn : FuncId) (tmps : Array Value) (ps : Array Tmp) (assign body : Code) (D : Nat) (st : LoopState) (pe : Option Code) : Loop :=
  { state := st, pending := pe, fn, tmps, params := ps, assign, body, defers := D }

/-- What the record rec of a loop bears, whatever its state. -/
def RecIs (rec : LoopState → Option Code → Loop) (fn : FuncId) (tmps : Array Value) (ps : Array Tmp) (assign body : Code) (D : Nat) : Prop := rec = recOf fn tmps ps assign body D

theorem Mod.putObj {S : Nat → Prop} {a b : World} (h : Mod S a b) (r : Nat) (o : Obj) (hr : S r ∨ a.heap.size ≤ r) : Mod S a (b.putObj r o) :=
  ⟨h.os, h.tape, h.output, by have := h.size; simpa using this, fun i hi hn => (World.putObj_heap_other (w := b) (r := r) (k := i) (o := o) (fun e => by subst e; rcases hr with hr | hr; exact hn hr; omega)).trans (h.block i hi hn)⟩
theorem Blk.putObj {w : World} {b : Nat} {cs : Array Value} {t : TypeId} {r : Nat} {o : Obj} (hp : b ≠ r) (h : Blk w b cs t) : Blk (w.putObj r o) b cs t :=
  h.of_heap (World.putObj_heap_other hp)

/-- What is asked behind the iterator: it has come to its end, or a round has left the loop by the jump c. -/
def RangeEnd (F : Fence) (n : Nat) (P : Program) (Q : Exit → Act → World → Prop) (a' : Act) (l D : Nat) (rec : LoopState → Option Code → Loop) (e : Ending) (W : World) : Prop :=
  (∃ v, e = .returned v) ∧ W.heap[D]? = some (.deferred (some [])) ∧
    ((W.heap[l]? = some (.loop (rec .ready none)) ∧ Q .normal a' (W.putObj l (.loop (rec .exhausted none)))) ∨
     (∃ c, W.heap[l]? = some (.loop (rec .done (some c))) ∧ c.wpIn F n P Q a' (W.putObj l (.loop (rec .exhausted (some c))))))

theorem wpIn_range {F : Fence} {n : Nat} {P : Program} {g : Operand} {ps : Array Tmp} {assign body : Code} {Q : Exit → Act → World → Prop} {a : Act} {w : World}
    (hro : F.round = none) (h1 : 1 ≤ n) {gf : Nat} {lb : Array Value} (hg : a.eval g = .func (.func gf) #[] lb) (hFg : F.fn gf) (eg : ∀ args w, (callFunc gf args).run P w = .ok (.enter gf args) w)
    (h : ∀ fn, F.fn fn → ∀ rec : LoopState → Option Code → Loop, RecIs rec fn a.tmps ps assign body w.heap.size → CallsIn F (n - 1) P gf (#[.func (.yield (w.heap.size + 1)) #[] #[]] ++ lb) ((w.alloc (.deferred (some []))).alloc (.loop (rec .ready none)))
      (RangeEnd F n P Q { a with defers := { target := .collected w.heap.size, args := #[] } :: a.defers } (w.heap.size + 1) w.heap.size rec)) :
    (Code.rangeFunc g ps assign body).wpIn F n P Q a w := by
  refine wpIn_rangeFunc ?_
  intro fn hfn
  rw [hro]
  obtain ⟨W1, hW1⟩ : ∃ W1, W1 = (w.alloc (.deferred (some []))).alloc (.loop (recOf fn a.tmps ps assign body w.heap.size .ready none)) := ⟨_, rfl⟩
  refine ⟨w.heap.size + 1, [{ target := .collected w.heap.size, args := #[] }], W1, { target := .fn (.func gf) lb, args := #[.func (.yield (w.heap.size + 1)) #[] #[]] }, W1, gf,
    #[.func (.yield (w.heap.size + 1)) #[] #[]] ++ lb, W1, hW1 ▸ run_enterLoop_outer _ _ _ _ _, ?_, ?_, ?_, fun _ => h1, ?_⟩
  · simp only [resolve, hg]
    simp [go_sem]
  · intro f' hf'; simp [Target.leads] at hf'; subst hf'; exact hFg
  · simp [invoke, go_sem, eg]
  · rw [hW1]
    refine (h fn hfn _ rfl).mono ?_
    rintro e W ⟨⟨v, rfl⟩, hD, ⟨hl, hq⟩ | ⟨c, hl, hq⟩⟩
    · exact ⟨none, _, run_endLoop (P := P) hl (by simp [recOf]), hq⟩
    · exact ⟨some c, _, run_endLoop (P := P) hl (by simp [recOf]), hq⟩

/-- What is asked at a round's end. -/
def RoundEnd (l : Nat) (rec : LoopState → Option Code → Loop) (R : Ending → World → Prop) : Exit → Act → World → Prop
  | .normal, _, w => w.heap[l]? = some (.loop (rec .busy none)) ∧ R (.returned (.bool true)) (w.putObj l (.loop (rec .ready none)))
  | .ret, _, w => w.heap[l]? = some (.loop (rec .busy none)) ∧ R (.returned (.bool false)) (w.putObj l (.loop (rec .done (some .ret))))
  | .exit id, _, w => w.heap[l]? = some (.loop (rec .busy none)) ∧ R (.returned (.bool false)) (w.putObj l (.loop (rec .done (some (.exit id)))))
  | .goto t, _, w => w.heap[l]? = some (.loop (rec .busy none)) ∧ R (.returned (.bool false)) (w.putObj l (.loop (rec .done (some (.goto t)))))
  | .panic _, _, _ => False
  | .outgrown, _, _ => False

theorem yieldAt_round {F : Fence} {m : Nat} {P : Program} {l : Nat} {rec : LoopState → Option Code → Loop} {fn : FuncId} {tmps : Array Value} {ps : Array Tmp} {assign body : Code} {D : Nat} {args : Array Value} {W : World} {R : Ending → World → Prop}
    (hrec : RecIs rec fn tmps ps assign body D) (hl : W.heap[l]? = some (.loop (rec .ready none))) (hs : args.size = ps.size) (hF : F.fn fn)
    (h : assign.wpIn (F.inRound l) m P (Exit.then (fun a₁ w₁ => w₁.heap[l]? = some (.loop (rec .ready none)) ∧ body.wpIn (F.inRound l) m P (RoundEnd l rec R) a₁ (w₁.putObj l (.loop (rec .busy none)))) (fun _ _ _ => False))
      { tmps := (ps.zip args).foldl (fun tmps (t, a) => tmps.setIfInBounds t a) tmps, defers := [] } W) :
    YieldAt F m P l args W R := by
  unfold RecIs at hrec
  subst hrec
  refine ⟨fn, _, assign, body, run_yield hl hs, roundIn_of_wpIn hF (wpIn_mono h ?_)⟩
  intro e a₁ w₁ hq
  cases e with
  | normal =>
    obtain ⟨hl1, hb⟩ := hq
    refine ⟨_, run_beginRound hl1 rfl, wpIn_mono hb ?_⟩
    intro e2 a2 w2 hq2
    cases e2 with
    | normal => exact ⟨_, _, run_endRound none hq2.1, hq2.2⟩
    | ret => exact ⟨_, _, run_endRound (some .ret) hq2.1, hq2.2⟩
    | exit id => exact ⟨_, _, run_endRound (some (.exit id)) hq2.1, hq2.2⟩
    | goto t => exact ⟨_, _, run_endRound (some (.goto t)) hq2.1, hq2.2⟩
    | panic c => exact hq2
    | outgrown => exact hq2
  | ret => exact hq.elim
  | exit id => exact hq.elim
  | goto t => exact hq.elim
  | panic c => exact hq.elim
  | outgrown => exact hq.elim
end Go.Proofs.YtnhgichiedninaaGreatDoor

namespace Go.Proofs.YtnhgichiedninaaGreatDoor
set_option linter.unusedSimpArgs false
set_option linter.unusedVariables false
open Go.RowKit

theorem rows_wide {n : Nat} {P : Program} {row : String} {args : Array Value} {w : World} {R : Value → World → Prop} (h : Rows P row args w R) : RowsIn Fence.wide n P row args w R :=
  fun c cs _ => let ⟨v, w', r, s⟩ := h c cs; ⟨v, w', r, stepsIn_wide.2 s⟩
theorem wpOp_round {l n : Nat} {P : Program} {ops : Array Oper} {Q : Exit → Act → World → Prop} {i : Nat} {K : Act → World → Prop} {a : Act} {w : World} (hnd : ∀ (j : Nat) o c, ops[j]? = some o → o.op ≠ .defer c) (hno : ¬ LetsOut Q)
    (h : wpOp P ops Q i K a w) : wpOpIn (Fence.wide.inRound l) n P ops Q i K a w := by
  unfold wpOp at h
  unfold wpOpIn
  cases ho : ops[i]? with
  | none => rw [ho] at h; exact h
  | some o =>
    rw [ho] at h
    simp only at h ⊢
    by_cases hw : Region.wanted o (yielded ops a.tmps) = true
    · rw [if_pos hw] at h ⊢
      rcases h with h | ⟨-, h⟩
      · unfold Oper.wp at h
        unfold Oper.wpIn
        refine ⟨fun _ _ => trivial, ?_⟩
        rw [Oper.semAt_eq _ _ _ (fun c => hnd i o c ho)]
        generalize (execOp a.eval o).run P w = r at *
        cases r with
        | ok x w' =>
          cases x <;> simp only [Oper.upon, Oper.uponIn] at h ⊢
          all_goals first
            | exact h
            | exact ⟨fun q => (by simp [Fence.wide] at q), CallsIn.inRound l (callsIn_wide.2 h)⟩
            | exact ⟨fun q => (by simp [Fence.wide] at q), rows_wide h⟩
            | exact h.elim
        | halt x w' => cases x <;> simp only [Oper.upon, Oper.uponIn] at h ⊢ <;> exact h
      · exact absurd h hno
    · rw [if_neg hw] at h ⊢
      exact ⟨fun _ _ => trivial, h⟩
theorem wpAny_round {l n : Nat} {P : Program} {ops : Array Oper} {md : Region.Mode} {Q : Exit → Act → World → Prop} (hnd : ∀ (j : Nat) o c, ops[j]? = some o → o.op ≠ .defer c) (hno : ¬ LetsOut Q) :
    ∀ (fuel : Nat) (listed : Array Bool) (a : Act) (w : World), wpAny P md ops Q fuel listed a w → wpAnyIn (Fence.wide.inRound l) n P md ops Q fuel listed a w
  | 0, _, _, _, h => h
  | fuel + 1, listed, a, w, h => ⟨h.1, fun i hi => wpOpIn_mono (fun a w q => wpAny_round hnd hno fuel _ a w q) (wpOp_round hnd hno (h.2 i hi))⟩
theorem wp_region_round {l n id : Nat} {P : Program} {ops : Array Oper} {Q : Exit → Act → World → Prop} {a : Act} {w : World} (S : World → Prop) (hm : P.follows .mixedOrders = true) (hnd : ∀ (j : Nat) o c, ops[j]? = some o → o.op ≠ .defer c) (hno : ¬ LetsOut Q) (hS : S w.drew)
    (h : S w.drew → wpAnyH P .any ops Q S ops.size (Array.replicate ops.size false) a w.drew) : (Code.region id ops true).wpIn (Fence.wide.inRound l) n P Q a w :=
  wpIn_region_any hm (wpAny_round hnd hno _ _ _ _ (wpAny_of_held _ _ _ _ (h hS)))
/-- None of the operations defers. -/
def noDefer (ops : Array Oper) : Bool := ops.all fun o => match o.op with | .defer _ => false | _ => true
theorem noDefer_spec {ops : Array Oper} (h : noDefer ops = true) : ∀ (j : Nat) o c, ops[j]? = some o → o.op ≠ .defer c := by
  intro j o c hj q
  have := Array.all_eq_true_iff_forall_mem.1 h o (Array.mem_of_getElem? hj)
  rw [q] at this
  simp at this
end Go.Proofs.YtnhgichiedninaaGreatDoor
