/-
  Several texts in one, in their build order. The walk of waiting, and of the library's Values (package local): the names, those that wait longest ahead. Conditions: the crier lies as told. A range over a function, whatever the iterator and the body do to memory: the statement's law and the round's. Over any program. Conditions: the loop stands in no other loop's round; the rounds defer nothing. The library's iterator over a list of texts, whatever the loop's rounds do that leave the list alone; a round may leave the loop. Conditions: as they stand. A region that draws its order, within a round of a range over a function: the held orders of the plain walk serve there too. Over any program. Condition: none of its operations defers. A region that draws its order, in the fence that asks nothing: the held orders of the plain walk serve there too. Over any program. No condition but that what is asked behind it lets nothing out. A region that draws its order, in a function that holds a range over a function: none of its operations panics; then what is asked behind a panic need not be told. Over any program. No condition but those of the lemmas.
-/
import Derived.Test.YtnflhjagmngimaaGreatDoorM10
import Derived.Test.YtnflhjagmngimaaGreatDoorM1
import Derived.RangeFuncNested
import Derived.RangeFuncBound
import Derived.RangeFuncCalls
import Derived.RangeFuncLeaves
import Derived.Shelf.Abstract
import Derived.Shelf.RegionOpen
import Derived.OwnWalkIn
import Derived.TacticsInMore
import Derived.LoopNIn
import Derived.LoopIn
import Derived.OrdersHeld
import Derived.OrdersIn
import Derived.Deep.RegionHeld
namespace Go.Proofs.YtnflhjagmngimaaGreatDoor
set_option linter.unusedSimpArgs false
set_option linter.unusedVariables false
open Go.RowKit Go.Shelf Go.Sort

set_option maxHeartbeats 1000000 in
theorem values_any (a : Option Addr) (n cap : Nat) (w : World) :
    Calls Tryz.prog 69 #[.slice a n cap] w fun e w' => e = .returned (.func (.func 94) #[] #[.pointer (some ⟨w.heap.size, 0, none⟩)]) ∧ w' = w.alloc (.cells #[.slice a n cap] 22) := by
  have hmf : ∀ (fn : Fn) (first cap : Array Value) (w : World), (Instr.makeFunc fn first cap).run Tryz.prog w = .ok (.func fn first cap) w := fun _ _ _ _ => rfl
  go_enter Tryz.func69, Tryz.ntmps69
  go_wp2
  go_ret
  exact ⟨rfl, rfl⟩
def strV : Value → ByteArray
  | .string s => s
  | _ => ⟨#[]⟩
theorem ents_perm {U all : List ByteArray} {f : ByteArray → Int} (h : (entsV U f).Perm (entsV all f)) : U.Perm all := by
  have h2 := h.map (fun x : Value × Value => strV x.1)
  have e : ∀ l : List ByteArray, (entsV l f).map (fun x : Value × Value => strV x.1) = l := by
    intro l
    unfold entsV
    rw [List.map_map]
    exact (List.map_congr_left (fun x _ => rfl)).trans (List.map_id _)
  rwa [e, e] at h2
theorem mem_ents {all : List ByteArray} {f : ByteArray → Int} {x : Value × Value} (h : x ∈ entsV all f) : ∃ k ∈ all, x = (.string k, .int .i64 (f k)) := by
  obtain ⟨k, hk, e⟩ := List.mem_map.1 h
  exact ⟨k, hk, e.symm⟩
set_option maxRecDepth 100000 in
set_option maxHeartbeats 8000000 in
theorem waiting_any (B M H : Nat) (c : CrV) (w : World) (h : CrAt w B M H c) (ho : CrOk c) :
    Calls Tryz.prog 37 #[.pointer (some ⟨B, 0, none⟩)] w fun e w' => ∃ (vb : Nat) (U : List ByteArray) (a : Option Addr) (cap : Nat),
      e = .returned (.func (.func 94) #[] #[.pointer (some ⟨vb, 0, none⟩)]) ∧ Blk w' vb #[.slice a U.length cap] 22 ∧ StrsAt w' a cap U ∧ U.Perm c.all ∧ U.Pairwise (NamesP c.last) ∧ New w w' ∧
      w.heap.size ≤ vb ∧ (∀ x, a = some x → w.heap.size ≤ x.block ∧ x.block < w'.heap.size) := by
  have hmf : ∀ (fn : Fn) (first cap : Array Value) (w : World), (Instr.makeFunc fn first cap).run Tryz.prog w = .ok (.func fn first cap) w := fun _ _ _ _ => rfl
  have N0 : New w (w.alloc (.cells #[.pointer (some ⟨B, 0, none⟩)] 24)) := (Mod.refl _ _).alloc _
  have B0 := hid (Blk.new w #[.pointer (some ⟨B, 0, none⟩)] 24)
  have C0 := hid (h.new N0)
  obtain ⟨hBl, hMl, hHl⟩ := h.lt
  have b0 := B0.out.cellv 0 rfl; have bl := B0.out.lt
  have c4 : (w.alloc (.cells #[.pointer (some ⟨B, 0, none⟩)] 24)).cell? ⟨B, 4, none⟩ = some (.map (some M)) := C0.out.row.cellv 4 rfl
  have hfew := ho.few
  have HO := hid ho
  obtain ⟨o, hrun, hit⟩ := C0.out.names.map.iter (P := Tryz.prog) Tryz.underlying60
  have hrun : (Instr.range 60 (.map (some M))).run Tryz.prog (w.alloc (.cells #[.pointer (some ⟨B, 0, none⟩)] 24)) = .ok (.pointer (some ⟨w.heap.size + 1, 0, none⟩)) ((w.alloc (.cells #[.pointer (some ⟨B, 0, none⟩)] 24)).alloc o) := by simpa using hrun
  have HIT : Hid (IterL ((w.alloc (.cells #[.pointer (some ⟨B, 0, none⟩)] 24)).alloc o) (w.heap.size + 1) M .string (entsV c.all c.last) []) := hid (by simpa using hit)
  obtain ⟨i1, hj, hy0, hy1, hy2⟩ := info_parts info_str
  clear h ho hit N0
  go_enter Tryz.func37, Tryz.ntmps37
  go_wp2_with fail
  obtain ⟨W0, hW0⟩ : ∃ W0, W0 = (w.alloc (.cells #[.pointer (some ⟨B, 0, none⟩)] 24)).alloc o := ⟨_, rfl⟩
  have NW : Hid (New w W0) := hid (by rw [hW0]; exact ((Mod.refl _ _).alloc _).alloc _)
  have HZ : W0.heap.size = w.heap.size + 2 := by rw [hW0]; simp
  have BW : Hid (Blk W0 w.heap.size #[.pointer (some ⟨B, 0, none⟩)] 24) := hid (by rw [hW0]; exact B0.out.alloc _)
  have CW : Hid (CrAt W0 B M H c) := hid (by rw [hW0]; exact C0.out.new ((Mod.refl _ _).alloc _))
  rw [← hW0] at HIT ⊢
  have HZ2 := hid HZ
  clear hW0 hrun b0 bl c4 HZ B0 C0
  go_loopw [3] (fun v wr => ∃ (U : List ByteArray), OwnT wr (w.heap.size + 2) v U ∧ IterL wr (w.heap.size + 1) M .string (entsV c.all c.last) (entsV U c.last) ∧ Mod (fun k => w.heap.size + 1 ≤ k) W0 wr) (fun _ wr => wr.rangeLeft M (w.heap.size + 1))
  case atStart => exact ⟨[], OwnT.nil _ _, HIT.out, Mod.refl _ _⟩
  case round =>
    obtain ⟨U, hO, hI, hM⟩ := hrel
    have HOT := hid hO; have HI := hid hI; have HM := hid hM
    have hlen := hI.len
    rw [ents_len, ents_len] at hlen
    have hU : U.length ≤ 200 := by omega
    rcases hI.next (P := Tryz.prog) (by omega) 0 with ⟨hp, hnx⟩ | ⟨x, w1, hx, hnx, hI1, hM1, hless, hen⟩
    · have HP := hid (ents_perm hp)
      clear hO hI hM hlen hp
      go_wp2_with fail
      have BW1 := hid (HM.out.blk BW.out (by omega))
      have CW1 : Hid (CrAt wr B M H c) := hid (CW.out.mod HM.out (by omega) (by omega) (by omega))
      refine (wsort_any w.heap.size B M H (w.heap.size + 2) c _ U wr HOT.out BW1.out CW1.out HO.out (by omega) (by omega) (by omega) (by omega) (by omega)).mono ?_
      rintro e w2 ⟨rfl, U', a', cap', hp2, hpw, hv, hst, hbk, hm2⟩
      have HP2 := hid (hp2.trans HP.out); have HPW := hid hpw; have HST := hid hst; have HBK := hid hbk; have HM2 := hid hm2
      subst hv
      clear hp2 hpw hst hbk hm2 hnx
      go_wp2_with fail
      refine (values_any a' U'.length cap' w2).mono ?_
      rintro e w3 ⟨rfl, rfl⟩
      go_wp2_with fail
      go_ret
      refine ⟨w2.heap.size, U', a', cap', rfl, Blk.new w2 _ _, ?_, HP2.out, HPW.out, ?_, ?_, fun x hx => by have := HBK.out x hx; simp; omega⟩
      · exact HST.out.new ((Mod.refl _ _).alloc _)
      · have m1 : Mod (fun k => w.heap.size + 1 ≤ k) W0 (w2.alloc (.cells #[.slice a' U'.length cap'] 22)) := by
          refine Mod.alloc ?_ _
          exact HM.out.trans' HM2.out (fun k _ q => by omega)
        exact NW.out.trans' m1 (fun k hk q => by omega)
      · have := HM.out.size; have := HM2.out.size; have := HZ2.out; omega
    · obtain ⟨k, hk, rfl⟩ := mem_ents hx
      have hks := HO.out.size k hk
      have HI1 : Hid (IterL w1 (w.heap.size + 1) M .string (entsV c.all c.last) (entsV (U ++ [k]) c.last)) := hid (by
        have e : entsV (U ++ [k]) c.last = entsV U c.last ++ [(Value.string k, Value.int .i64 (c.last k))] := by unfold entsV; rw [List.map_append]; rfl
        rw [e]; exact hI1)
      have HM1 := hid hM1; have HLS := hid hless
      have O1 := hid (HOT.out.mod hM1 (fun j hj _ q => by omega))
      have HSZ := hid (HM.out.trans' hM1 (S := fun k => w.heap.size + 1 ≤ k) (fun j _ q => by omega))
      have hz1 := hid HSZ.out.size
      clear hO hI hM hlen hx hI1 hM1 hless hk
      obtain ⟨a, cc, rfl, hs1, hb1⟩ := O1.out.strs
      have hc1 := hs1.room; have hc2 := hs1.cap
      unfold maxLen at hc2
      clear hs1 hb1
      go_wp2_with (at_builtin; refine wpList_append_own_at _ rfl _ _ 22 rfl (w.heap.size + 2) 9 i1 _ 1 16 Tryz.underlying22 hj hy0 hy1 hy2 rfl (by decide) (.slice a U.length cc) U.length (U.map Value.string) rfl ?ow ⟨w1.heap.size, 0, none⟩ 1 1 [.string k] rfl rfl ?hn ?h1 ?h63 ?hby ?hba ?_)
      case ow => exact (O1.out.new ((Mod.refl _ _).alloc _)).row
      case h1 => rfl
      case h63 => unfold maxLen; omega
      case hby => omega
      case hba => have := hz1.out; have := HZ2.out; omega
      intro o3 w4 r4 g4 _ _
      have O4 : Hid (OwnT w4 (w.heap.size + 2) o3 (U ++ [k])) := hid (ownT_of HOT.out.small (by unfold maxLen; omega) r4)
      have M4 : Hid (Mod (fun k => w.heap.size + 2 ≤ k) w1 w4) := hid (mod_grownT (O1.out.new ((Mod.refl _ _).alloc _)) (Nat.le_refl _) ((Mod.refl _ _).alloc _) g4)
      clear r4 g4 hen hnx
      go_wp2
      go_roundw
      case rel => exact ⟨U ++ [k], O4.out, HI1.out.mod M4.out (by omega) (by omega), HSZ.out.trans' M4.out (fun j _ q => by omega)⟩
      case measure =>
        have h4 := (HI1.out.mod M4.out (by omega) (by omega)).len
        have h5 := HI1.out.len
        have := HLS.out
        omega
end Go.Proofs.YtnflhjagmngimaaGreatDoor

namespace Go.Proofs.YtnflhjagmngimaaGreatDoor
set_option linter.unusedSimpArgs false
set_option linter.unusedVariables false
open Go.RowKit Go.Shelf

/-- The loop's record. -/
def recOf (fn : FuncId) (tmps : Array Value) (ps : Array Tmp) (assign body : Code) (D : Nat) (st : LoopState) (pe : Option Code) : Loop :=
  { state := st, pending := pe, fn, tmps, params := ps, assign, body, defers := D }

/-- What the record rec of a loop bears, whatever its state. -/
def RecIs (rec : LoopState → Option Code → Loop) (fn : FuncId) (tmps : Array Value) (ps : Array Tmp) (assign body : Code) (D : Nat) : Prop := rec = recOf fn tmps ps assign body D

theorem Mod.putObj {S : Nat → Prop} {a b : World} (h : Mod S a b) (r : Nat) (o : Obj) (hr : S r ∨ a.heap.size ≤ r) : Mod S a (b.putObj r o) :=
  ⟨h.os, h.tape, h.output, by have := h.size; simpa using this, fun i hi hn => (World.putObj_heap_other (w := b) (r := r) (k := i) (o := o) (fun e => by subst e; rcases hr with hr | hr; exact hn hr; omega)).trans (h.block i hi hn)⟩
theorem Blk.putObj {w : World} {b : Nat} {cs : Array Value} {t : TypeId} {r : Nat} {o : Obj} (hp : b ≠ r) (h : Blk w b cs t) : Blk (w.putObj r o) b cs t :=
  h.of_heap (World.putObj_heap_other hp)

/-- What is asked behind the iterator: it has come to its end, or a round has left the loop by the jump c. -/
def RangeEnd (F : Fence) (n : Nat) (P : Program) (Q : Exit → Act → World → Prop) (a' : Act) (l D : Nat) (rec : LoopState → Option Code → Loop) (e : Ending) (W : World) : Prop :=
  (∃ v, e = .returned v) ∧ W.heap[D]? = some (.deferred (some [])) ∧
    ((W.heap[l]? = some (.loop (rec .ready none)) ∧ Q .normal a' (W.putObj l (.loop (rec .exhausted none)))) ∨
     (∃ c, W.heap[l]? = some (.loop (rec .done (some c))) ∧ c.wpIn F n P Q a' (W.putObj l (.loop (rec .exhausted (some c))))))

theorem wpIn_range {F : Fence} {n : Nat} {P : Program} {g : Operand} {ps : Array Tmp} {assign body : Code} {Q : Exit → Act → World → Prop} {a : Act} {w : World}
    (hro : F.round = none) (h1 : 1 ≤ n) {gf : Nat} {lb : Array Value} (hg : a.eval g = .func (.func gf) #[] lb) (hFg : F.fn gf) (eg : ∀ args w, (callFunc gf args).run P w = .ok (.enter gf args) w)
    (h : ∀ fn, F.fn fn → ∀ rec : LoopState → Option Code → Loop, RecIs rec fn a.tmps ps assign body w.heap.size → CallsIn F (n - 1) P gf (#[.func (.yield (w.heap.size + 1)) #[] #[]] ++ lb) ((w.alloc (.deferred (some []))).alloc (.loop (rec .ready none)))
      (RangeEnd F n P Q { a with defers := { target := .collected w.heap.size, args := #[] } :: a.defers } (w.heap.size + 1) w.heap.size rec)) :
    (Code.rangeFunc g ps assign body).wpIn F n P Q a w := by
  refine wpIn_rangeFunc ?_
  intro fn hfn
  rw [hro]
  obtain ⟨W1, hW1⟩ : ∃ W1, W1 = (w.alloc (.deferred (some []))).alloc (.loop (recOf fn a.tmps ps assign body w.heap.size .ready none)) := ⟨_, rfl⟩
  refine ⟨w.heap.size + 1, [{ target := .collected w.heap.size, args := #[] }], W1, { target := .fn (.func gf) lb, args := #[.func (.yield (w.heap.size + 1)) #[] #[]] }, W1, gf,
    #[.func (.yield (w.heap.size + 1)) #[] #[]] ++ lb, W1, hW1 ▸ run_enterLoop_outer _ _ _ _ _, ?_, ?_, ?_, fun _ => h1, ?_⟩
  · simp only [resolve, hg]
    simp [go_sem]
  · intro f' hf'; simp [Target.leads] at hf'; subst hf'; exact hFg
  · simp [invoke, go_sem, eg]
  · rw [hW1]
    refine (h fn hfn _ rfl).mono ?_
    rintro e W ⟨⟨v, rfl⟩, hD, ⟨hl, hq⟩ | ⟨c, hl, hq⟩⟩
    · exact ⟨none, _, run_endLoop (P := P) hl (by simp [recOf]), hq⟩
    · exact ⟨some c, _, run_endLoop (P := P) hl (by simp [recOf]), hq⟩

/-- What is asked at a round's end. -/
def RoundEnd (l : Nat) (rec : LoopState → Option Code → Loop) (R : Ending → World → Prop) : Exit → Act → World → Prop
  | .normal, _, w => w.heap[l]? = some (.loop (rec .busy none)) ∧ R (.returned (.bool true)) (w.putObj l (.loop (rec .ready none)))
  | .ret, _, w => w.heap[l]? = some (.loop (rec .busy none)) ∧ R (.returned (.bool false)) (w.putObj l (.loop (rec .done (some .ret))))
  | .exit id, _, w => w.heap[l]? = some (.loop (rec .busy none)) ∧ R (.returned (.bool false)) (w.putObj l (.loop (rec .done (some (.exit id)))))
  | .goto t, _, w => w.heap[l]? = some (.loop (rec .busy none)) ∧ R (.returned (.bool false)) (w.putObj l (.loop (rec .done (some (.goto t)))))
  | .panic _, _, _ => False
  | .outgrown, _, _ => False

theorem yieldAt_round {F : Fence} {m : Nat} {P : Program} {l : Nat} {rec : LoopState → Option Code → Loop} {fn : FuncId} {tmps : Array Value} {ps : Array Tmp} {assign body : Code} {D : Nat} {args : Array Value} {W : World} {R : Ending → World → Prop}
    (hrec : RecIs rec fn tmps ps assign body D) (hl : W.heap[l]? = some (.loop (rec .ready none))) (hs : args.size = ps.size) (hF : F.fn fn)
    (h : assign.wpIn (F.inRound l) m P (Exit.then (fun a₁ w₁ => w₁.heap[l]? = some (.loop (rec .ready none)) ∧ body.wpIn (F.inRound l) m P (RoundEnd l rec R) a₁ (w₁.putObj l (.loop (rec .busy none)))) (fun _ _ _ => False))
      { tmps := (ps.zip args).foldl (fun tmps (t, a) => tmps.setIfInBounds t a) tmps, defers := [] } W) :
    YieldAt F m P l args W R := by
  unfold RecIs at hrec
  subst hrec
  refine ⟨fn, _, assign, body, run_yield hl hs, roundIn_of_wpIn hF (wpIn_mono h ?_)⟩
  intro e a₁ w₁ hq
  cases e with
  | normal =>
    obtain ⟨hl1, hb⟩ := hq
    refine ⟨_, run_beginRound hl1 rfl, wpIn_mono hb ?_⟩
    intro e2 a2 w2 hq2
    cases e2 with
    | normal => exact ⟨_, _, run_endRound none hq2.1, hq2.2⟩
    | ret => exact ⟨_, _, run_endRound (some .ret) hq2.1, hq2.2⟩
    | exit id => exact ⟨_, _, run_endRound (some (.exit id)) hq2.1, hq2.2⟩
    | goto t => exact ⟨_, _, run_endRound (some (.goto t)) hq2.1, hq2.2⟩
    | panic c => exact hq2
    | outgrown => exact hq2
  | ret => exact hq.elim
  | exit id => exact hq.elim
  | goto t => exact hq.elim
  | panic c => exact hq.elim
  | outgrown => exact hq.elim
end Go.Proofs.YtnflhjagmngimaaGreatDoor

namespace Go.Proofs.YtnflhjagmngimaaGreatDoor
set_option linter.unusedSimpArgs false
set_option linter.unusedVariables false
open Go.RowKit Go.Shelf
attribute [local go_sem] Oper.semAt_some

set_option maxRecDepth 100000 in
set_option maxHeartbeats 4000000 in
theorem values_iter (a : Option Addr) (cap : Nat) (U : List ByteArray) (vb lp m : Nat) (hm : 1 ≤ m) (Inv : List ByteArray → World → Prop) (Stop : World → Prop)
    (hI : ∀ T W, Inv T W → Blk W vb #[.slice a U.length cap] 22 ∧ StrsAt W a cap U)
    (hY : ∀ T s rest W, Inv T W → T ++ s :: rest = U → YieldAt Fence.wide (m - 1) Tryz.prog lp #[.string s] W fun e W' => (e = .returned (.bool true) ∧ Inv (T ++ [s]) W') ∨ (e = .returned (.bool false) ∧ Stop W'))
    (W : World) (h0 : Inv [] W) :
    CallsIn Fence.wide m Tryz.prog 94 #[.func (.yield lp) #[] #[], .pointer (some ⟨vb, 0, none⟩)] W fun e W' => (∃ v, e = .returned v) ∧ (Inv U W' ∨ Stop W') := by
  refine callsIn_of_wp Tryz.func94 rfl trivial ?_ rfl
  simp only [Tryz.ntmps94, List.size_toArray, List.length_cons, List.length_nil, Nat.reduceAdd, Nat.reduceSub, Array.replicate_succ, Array.replicate_zero, List.push_toArray, List.append_toArray, List.nil_append, List.cons_append]
  have HI := hid hI; have HY := hid hY; have H0 := hid h0
  obtain ⟨b0, hst⟩ := hI _ _ h0
  have c0 := b0.cellv 0 rfl; have cl := b0.lt
  have hr := hst.room; have hc := hst.cap
  unfold maxLen at hc
  clear hI hY h0 b0 hst
  gi_wp2
  gi_loopw [7] (fun i wr => ∃ (k : Nat), i = .int .i64 k ∧ k ≤ U.length ∧ Inv (U.take k) wr) (fun i _ => U.length - (intOf i).toNat)
  case atStart => exact ⟨0, rfl, by omega, by simpa using H0.out⟩
  case round =>
    obtain ⟨k, rfl, hk, hinv⟩ := hrel
    have HV := hid hinv
    obtain ⟨b1, hs1⟩ := HI.out _ _ hinv
    clear hinv b1 c0 cl
    by_cases hlt : k < U.length
    · obtain ⟨bb, oo, rfl, hbb, hcc⟩ := hs1.get (by omega)
      have g0 := hcc k hlt
      obtain ⟨s, hs⟩ : ∃ s, s = U[k] := ⟨_, rfl⟩
      rw [← hs] at g0
      have HTK := hid (show U.take (k + 1) = U.take k ++ [s] by rw [List.take_succ_eq_append_getElem hlt, ← hs])
      obtain ⟨fn, tmps, assign, body, hy, hR⟩ := HY.out (U.take k) s (U.drop (k + 1)) wr HV.out (by rw [hs, List.getElem_cons_drop, List.take_append_drop])
      have HR := hid hR
      clear hs hcc hs1 hR
      gi_wp2
      refine HR.out.mono ?_
      rintro e W2 (⟨rfl, hi2⟩ | ⟨rfl, hi2⟩)
      · have HI2 := hid hi2
        clear hi2
        gi_wp2
        go_roundw
        case rel => exact ⟨k + 1, by simp, by omega, by rw [HTK.out]; exact HI2.out⟩
        case measure => simp [intOf]; omega
      · have HI2 := hid hi2
        clear hi2
        gi_wp2
        exact bodyPost_ret (results_none (by kernel_rfl) _ _ _) rfl ⟨⟨_, rfl⟩, .inr HI2.out⟩
    · obtain rfl : k = U.length := by omega
      rw [List.take_length] at HV
      clear hs1
      gi_wp2
      go_end0
      exact ⟨⟨_, rfl⟩, .inl HV.out⟩
end Go.Proofs.YtnflhjagmngimaaGreatDoor

namespace Go.Proofs.YtnflhjagmngimaaGreatDoor
set_option linter.unusedSimpArgs false
set_option linter.unusedVariables false
open Go.RowKit

theorem rows_wide {n : Nat} {P : Program} {row : String} {args : Array Value} {w : World} {R : Value → World → Prop} (h : Rows P row args w R) : RowsIn Fence.wide n P row args w R :=
  fun c cs _ => let ⟨v, w', r, s⟩ := h c cs; ⟨v, w', r, stepsIn_wide.2 s⟩
theorem wpOp_round {l n : Nat} {P : Program} {ops : Array Oper} {Q : Exit → Act → World → Prop} {i : Nat} {K : Act → World → Prop} {a : Act} {w : World} (hnd : ∀ (j : Nat) o c, ops[j]? = some o → o.op ≠ .defer c) (hno : ¬ LetsOut Q)
    (h : wpOp P ops Q i K a w) : wpOpIn (Fence.wide.inRound l) n P ops Q i K a w := by
  unfold wpOp at h
  unfold wpOpIn
  cases ho : ops[i]? with
  | none => rw [ho] at h; exact h
  | some o =>
    rw [ho] at h
    simp only at h ⊢
    by_cases hw : Region.wanted o (yielded ops a.tmps) = true
    · rw [if_pos hw] at h ⊢
      rcases h with h | ⟨-, h⟩
      · unfold Oper.wp at h
        unfold Oper.wpIn
        refine ⟨fun _ _ => trivial, ?_⟩
        rw [Oper.semAt_eq _ _ _ (fun c => hnd i o c ho)]
        generalize (execOp a.eval o).run P w = r at *
        cases r with
        | ok x w' =>
          cases x <;> simp only [Oper.upon, Oper.uponIn] at h ⊢
          all_goals first
            | exact h
            | exact ⟨fun q => (by simp [Fence.wide] at q), CallsIn.inRound l (callsIn_wide.2 h)⟩
            | exact ⟨fun q => (by simp [Fence.wide] at q), rows_wide h⟩
            | exact h.elim
        | halt x w' => cases x <;> simp only [Oper.upon, Oper.uponIn] at h ⊢ <;> exact h
      · exact absurd h hno
    · rw [if_neg hw] at h ⊢
      exact ⟨fun _ _ => trivial, h⟩
theorem wpAny_round {l n : Nat} {P : Program} {ops : Array Oper} {md : Region.Mode} {Q : Exit → Act → World → Prop} (hnd : ∀ (j : Nat) o c, ops[j]? = some o → o.op ≠ .defer c) (hno : ¬ LetsOut Q) :
    ∀ (fuel : Nat) (listed : Array Bool) (a : Act) (w : World), wpAny P md ops Q fuel listed a w → wpAnyIn (Fence.wide.inRound l) n P md ops Q fuel listed a w
  | 0, _, _, _, h => h
  | fuel + 1, listed, a, w, h => ⟨h.1, fun i hi => wpOpIn_mono (fun a w q => wpAny_round hnd hno fuel _ a w q) (wpOp_round hnd hno (h.2 i hi))⟩
theorem wp_region_round {l n id : Nat} {P : Program} {ops : Array Oper} {Q : Exit → Act → World → Prop} {a : Act} {w : World} (S : World → Prop) (hm : P.follows .mixedOrders = true) (hnd : ∀ (j : Nat) o c, ops[j]? = some o → o.op ≠ .defer c) (hno : ¬ LetsOut Q) (hS : S w.drew)
    (h : S w.drew → wpAnyH P .any ops Q S ops.size (Array.replicate ops.size false) a w.drew) : (Code.region id ops true).wpIn (Fence.wide.inRound l) n P Q a w :=
  wpIn_region_any hm (wpAny_round hnd hno _ _ _ _ (wpAny_of_held _ _ _ _ (h hS)))
/-- None of the operations defers. -/
def noDefer (ops : Array Oper) : Bool := ops.all fun o => match o.op with | .defer _ => false | _ => true
theorem noDefer_spec {ops : Array Oper} (h : noDefer ops = true) : ∀ (j : Nat) o c, ops[j]? = some o → o.op ≠ .defer c := by
  intro j o c hj q
  have := Array.all_eq_true_iff_forall_mem.1 h o (Array.mem_of_getElem? hj)
  rw [q] at this
  simp at this
end Go.Proofs.YtnflhjagmngimaaGreatDoor

namespace Go.Proofs.YtnflhjagmngimaaGreatDoor
set_option linter.unusedSimpArgs false
set_option linter.unusedVariables false
open Go.RowKit

theorem wpOp_wideN {n : Nat} {P : Program} {ops : Array Oper} {Q : Exit → Act → World → Prop} {i : Nat} {K : Act → World → Prop} {a : Act} {w : World} (hno : ¬ LetsOut Q)
    (h : wpOp P ops Q i K a w) : wpOpIn Fence.wide n P ops Q i K a w := by
  unfold wpOp at h
  unfold wpOpIn
  cases ho : ops[i]? with
  | none => rw [ho] at h; exact h
  | some o =>
    rw [ho] at h
    simp only at h ⊢
    by_cases hw : Region.wanted o (yielded ops a.tmps) = true
    · rw [if_pos hw] at h ⊢
      rcases h with h | ⟨-, h⟩
      · unfold Oper.wp at h
        unfold Oper.wpIn
        refine ⟨fun _ _ => trivial, ?_⟩
        rw [show Fence.wide.round = none from rfl, Oper.semAt_none]
        generalize (execOp a.eval o).run P w = r at *
        cases r with
        | ok x w' =>
          cases x <;> simp only [Oper.upon, Oper.uponIn] at h ⊢
          all_goals first
            | exact h
            | exact ⟨fun q => (by simp [Fence.wide] at q), callsIn_wide.2 h⟩
            | exact ⟨fun q => (by simp [Fence.wide] at q), rows_wide h⟩
            | exact h.elim
        | halt x w' => cases x <;> simp only [Oper.upon, Oper.uponIn] at h ⊢ <;> exact h
      · exact absurd h hno
    · rw [if_neg hw] at h ⊢
      exact ⟨fun _ _ => trivial, h⟩
theorem wpAny_wideN {n : Nat} {P : Program} {ops : Array Oper} {md : Region.Mode} {Q : Exit → Act → World → Prop} (hno : ¬ LetsOut Q) :
    ∀ (fuel : Nat) (listed : Array Bool) (a : Act) (w : World), wpAny P md ops Q fuel listed a w → wpAnyIn Fence.wide n P md ops Q fuel listed a w
  | 0, _, _, _, h => h
  | fuel + 1, listed, a, w, h => ⟨h.1, fun i hi => wpOpIn_mono (fun a w q => wpAny_wideN hno fuel _ a w q) (wpOp_wideN hno (h.2 i hi))⟩
theorem wp_region_wideN {n id : Nat} {P : Program} {ops : Array Oper} {Q : Exit → Act → World → Prop} {a : Act} {w : World} (S : World → Prop) (hm : P.follows .mixedOrders = true) (hno : ¬ LetsOut Q) (hS : S w.drew)
    (h : S w.drew → wpAnyH P .any ops Q S ops.size (Array.replicate ops.size false) a w.drew) : (Code.region id ops true).wpIn Fence.wide n P Q a w :=
  wpIn_region_any hm (wpAny_wideN hno _ _ _ _ (wpAny_of_held _ _ _ _ (h hS)))
theorem obz_set {w : World} {k : Nat} {o : Obj} {p : Addr} {u : Value} (hp : k ≠ p.block) (h : w.heap[k]? = some o) : (w.setCell p u).heap[k]? = some o := (Below.heap_setCell w p u k hp).trans h
theorem obz_put {w : World} {k r : Nat} {o o' : Obj} (hp : k ≠ r) (h : w.heap[k]? = some o) : (w.putObj r o').heap[k]? = some o := (World.putObj_heap_other hp).trans h
end Go.Proofs.YtnflhjagmngimaaGreatDoor

namespace Go.Proofs.YtnflhjagmngimaaGreatDoor
set_option linter.unusedSimpArgs false
set_option linter.unusedVariables false
open Go.RowKit

/-- Nothing but the normal end. -/
def noPanic (Q : Exit → Act → World → Prop) : Exit → Act → World → Prop
  | .normal, a, w => Q .normal a w
  | _, _, _ => False
theorem noPanic_ok {Q : Exit → Act → World → Prop} {a : Act} {w : World} (h : Q .normal a w) : noPanic Q .normal a w := h
theorem wp_region_wideP {n id : Nat} {P : Program} {ops : Array Oper} {Q : Exit → Act → World → Prop} {a : Act} {w : World} (S : World → Prop) (hm : P.follows .mixedOrders = true) (hS : S w.drew)
    (h : S w.drew → wpAnyH P .any ops (noPanic Q) S ops.size (Array.replicate ops.size false) a w.drew) : (Code.region id ops true).wpIn Fence.wide n P Q a w :=
  wpIn_mono (wp_region_wideN S hm (by rintro ⟨a, w, q⟩; exact q) hS h) (fun e a w q => by cases e <;> first | exact q | exact q.elim)
end Go.Proofs.YtnflhjagmngimaaGreatDoor
