/-
  Several texts in one, in their build order. A region that draws its order, in the fence that asks nothing: the held orders of the plain walk serve there too. Over any program. No condition but that what is asked behind it lets nothing out. A region that draws its order, in a function that holds a range over a function: none of its operations panics; then what is asked behind a panic need not be told. Over any program. No condition but those of the lemmas.
-/
import Derived.Test.YtnflhjagmngimaaGreatDoorM27
namespace Go.Proofs.YtnflhjagmngimaaGreatDoor
set_option linter.unusedSimpArgs false
set_option linter.unusedVariables false
open Go.RowKit

theorem wpOp_wideN {n : Nat} {P : Program} {ops : Array Oper} {Q : Exit → Act → World → Prop} {i : Nat} {K : Act → World → Prop} {a : Act} {w : World} (hno : ¬ LetsOut Q)
    (h : wpOp P ops Q i K a w) : wpOpIn Fence.wide n P ops Q i K a w := by
  unfold wpOp at h
  unfold wpOpIn
  cases ho : ops[i]? with
  | none => rw [ho] at h; exact h
  | some o =>
    rw [ho] at h
    simp only at h ⊢
    by_cases hw : Region.wanted o (yielded ops a.tmps) = true
    · rw [if_pos hw] at h ⊢
      rcases h with h | ⟨-, h⟩
      · unfold Oper.wp at h
        unfold Oper.wpIn
        refine ⟨fun _ _ => trivial, ?_⟩
        rw [show Fence.wide.round = none from rfl, Oper.semAt_none]
        generalize (execOp a.eval o).run P w = r at *
        cases r with
        | ok x w' =>
          cases x <;> simp only [Oper.upon, Oper.uponIn] at h ⊢
          all_goals first
            | exact h
            | exact ⟨fun q => (by simp [Fence.wide] at q), callsIn_wide.2 h⟩
            | exact ⟨fun q => (by simp [Fence.wide] at q), rows_wide h⟩
            | exact h.elim
        | halt x w' => cases x <;> simp only [Oper.upon, Oper.uponIn] at h ⊢ <;> exact h
      · exact absurd h hno
    · rw [if_neg hw] at h ⊢
      exact ⟨fun _ _ => trivial, h⟩
theorem wpAny_wideN {n : Nat} {P : Program} {ops : Array Oper} {md : Region.Mode} {Q : Exit → Act → World → Prop} (hno : ¬ LetsOut Q) :
    ∀ (fuel : Nat) (listed : Array Bool) (a : Act) (w : World), wpAny P md ops Q fuel listed a w → wpAnyIn Fence.wide n P md ops Q fuel listed a w
  | 0, _, _, _, h => h
  | fuel + 1, listed, a, w, h => ⟨h.1, fun i hi => wpOpIn_mono (fun a w q => wpAny_wideN hno fuel _ a w q) (wpOp_wideN hno (h.2 i hi))⟩
theorem wp_region_wideN {n id : Nat} {P : Program} {ops : Array Oper} {Q : Exit → Act → World → Prop} {a : Act} {w : World} (S : World → Prop) (hm : P.follows .mixedOrders = true) (hno : ¬ LetsOut Q) (hS : S w.drew)
    (h : S w.drew → wpAnyH P .any ops Q S ops.size (Array.replicate ops.size false) a w.drew) : (Code.region id ops true).wpIn Fence.wide n P Q a w :=
  wpIn_region_any hm (wpAny_wideN hno _ _ _ _ (wpAny_of_held _ _ _ _ (h hS)))
theorem obz_set {w : World} {k : Nat} {o : Obj} {p : Addr} {u : Value} (hp : k ≠ p.block) (h : w.heap[k]? = some o) : (w.setCell p u).heap[k]? = some o := (Below.heap_setCell w p u k hp).trans h
theorem obz_alloc {w : World} {k : Nat} {o o' : Obj} (h : w.heap[k]? = some o) : (w.alloc o').heap[k]? = some o := (Below.heap_alloc w o' k (Array.getElem?_eq_some_iff.1 h).1).trans h
theorem obz_put {w : World} {k r : Nat} {o o' : Obj} (hp : k ≠ r) (h : w.heap[k]? = some o) : (w.putObj r o').heap[k]? = some o := (World.putObj_heap_other hp).trans h
end Go.Proofs.YtnflhjagmngimaaGreatDoor

namespace Go.Proofs.YtnflhjagmngimaaGreatDoor
set_option linter.unusedSimpArgs false
set_option linter.unusedVariables false
open Go.RowKit

/-- Nothing but the normal end. -/
def noPanic (Q : Exit → Act → World → Prop) : Exit → Act → World → Prop
  | .normal, a, w => Q .normal a w
  | _, _, _ => False
theorem noPanic_ok {Q : Exit → Act → World → Prop} {a : Act} {w : World} (h : Q .normal a w) : noPanic Q .normal a w := h
theorem wp_region_wideP {n id : Nat} {P : Program} {ops : Array Oper} {Q : Exit → Act → World → Prop} {a : Act} {w : World} (S : World → Prop) (hm : P.follows .mixedOrders = true) (hS : S w.drew)
    (h : S w.drew → wpAnyH P .any ops (noPanic Q) S ops.size (Array.replicate ops.size false) a w.drew) : (Code.region id ops true).wpIn Fence.wide n P Q a w :=
  wpIn_mono (wp_region_wideN S hm (by rintro ⟨a, w, q⟩; exact q) hS h) (fun e a w q => by cases e <;> first | exact q | exact q.elim)
end Go.Proofs.YtnflhjagmngimaaGreatDoor
