/-
  The walk of lines: the map of the three functions that read a line's rest. No condition.
-/
import Derived.Test.YtnflhjagmngimaaDoorLfm
namespace Go.Proofs.YtnflhjagmngimaaDoor
set_option linter.unusedSimpArgs false
set_option linter.unusedVariables false
open Go.RowKit

def kPort : ByteArray := ⟨#[80, 111, 114, 116, 58, 32]⟩
def kName : ByteArray := ⟨#[78, 97, 109, 101, 58, 32]⟩
def kCook : ByteArray := ⟨#[67, 111, 111, 107, 105, 101, 58, 32]⟩
def linesF : List (ByteArray × Value) := [(kCook, .func (.func 52) #[] #[]), (kName, .func (.func 50) #[] #[]), (kPort, .func (.func 49) #[] #[])]
theorem FunAt.mod {S : Nat → Prop} {w w' : World} {b : Nat} {L : List (ByteArray × Value)} (h : FunAt w b L) (n : Mod S w w') (hs : ¬ S b) : FunAt w' b L := h.of_heap (n.block b h.lt hs)
theorem Mod.newOfL {S : Nat → Prop} {w w' : World} (hm : Mod S w w') (hs : ∀ k, k < w.heap.size → ¬ S k) : New w w' :=
  ⟨hm.os, hm.tape, hm.output, hm.size, fun k hk _ => hm.block k hk (hs k hk)⟩
set_option maxRecDepth 100000 in
set_option maxHeartbeats 1000000 in
theorem lines_any (w : World) : Calls Tryd.prog 36 #[] w fun e w' => ∃ b, e = .returned (.map (some b)) ∧ FunAt w' b linesF ∧ New w w' := by
  have F0 := FunAt.made w
  obtain ⟨wa, ua, Fa, Ma⟩ := F0.update Tryd.underlying65 Tryd.underlying9 kPort (.func (.func 49) #[] #[]) (by simp)
  obtain ⟨wb, ub, Fb, Mb⟩ := Fa.update Tryd.underlying65 Tryd.underlying9 kName (.func (.func 50) #[] #[]) (by
    intro v q
    simp [kName, kPort] at q)
  obtain ⟨wc, uc, Fc, Mc⟩ := Fb.update Tryd.underlying65 Tryd.underlying9 kCook (.func (.func 52) #[] #[]) (by
    intro v q
    simp [kCook, kName, kPort] at q)
  have HF := hid Fc
  have HN : Hid (New w wc) := hid (((((Mod.refl (fun k => k = w.heap.size) w).alloc _).trans Ma).trans Mb).trans Mc |>.newOfL (fun k hk q => by omega))
  unfold kPort at ua
  unfold kName at ub
  unfold kCook at uc
  have hmm := @run_makeMap Tryd.prog
  clear F0 Fa Fb Fc Ma Mb Mc
  go_enter Tryd.func36, Tryd.ntmps36
  go_wp2
  go_ret
  exact ⟨_, rfl, HF.out, HN.out⟩
end Go.Proofs.YtnflhjagmngimaaDoor
