/-
  Several texts in one, in their build order. The walks of plain (package magnet and its reference) and of the reference's nibble. No condition. A strings.Builder that the call made: what it holds, and what writing and reading it do. Conditions: as they stand (lengths).
-/
import Derived.Test.YtbgmkplpolgebaaGreatDoorM2
import Derived.Test.YtbgmkplpolgebaaGreatDoorM5
import Derived.Test.YtbgmkplpolgebaaGreatDoorM3
import Derived.Test.YtbgmkplpolgebaaGreatDoorM1
import Derived.Shelf.Strings.BuilderK
namespace Go.Proofs.YtbgmkplpolgebaaGreatDoor
set_option linter.unusedSimpArgs false
set_option linter.unusedVariables false
open Go.RowKit Go.Shelf

set_option maxRecDepth 100000 in
set_option maxHeartbeats 4000000 in
theorem rnibble_any (c : UInt8) (w : World) : Calls Tryz.prog 136 #[.int .u8 (c.toNat : Int)] w fun e w' => e = .returned (.int .i64 (nibI (lowC c))) ∧ w = w' := by
  have hc := c.toNat_lt
  by_cases h : 65 ≤ c.toNat ∧ c.toNat ≤ 70
  · have HL := hid (show lowC c = c + 32 by unfold lowC; rw [if_pos h])
    have h1 : (65 : Int) ≤ (c.toNat : Int) := by omega
    have h2 : (c.toNat : Int) ≤ 70 := by omega
    have h3 : IntKind.u8.wrap ((c.toNat : Int) + 32) = ((c + 32).toNat : Int) := by
      rw [IntWalk.u8_in _ (by omega), UInt8.toNat_add]
      have : (32 : UInt8).toNat = 32 := rfl
      omega
    obtain ⟨d, hd⟩ : ∃ d, d = c + 32 := ⟨_, rfl⟩
    rw [← hd] at HL h3
    clear h hd
    go_enter Tryz.func136, Tryz.ntmps136
    go_wp2_with fail
    refine (nibble_any d _).mono ?_
    rintro e w1 ⟨rfl, rfl⟩
    go_wp2_with fail
    go_ret
    exact ⟨by rw [HL.out]; rfl, rfl⟩
  · have HL := hid (show lowC c = c by unfold lowC; rw [if_neg h])
    by_cases h1 : (65 : Int) ≤ (c.toNat : Int)
    · have h2 : ¬ (c.toNat : Int) ≤ 70 := by omega
      clear h
      go_enter Tryz.func136, Tryz.ntmps136
      go_wp2_with fail
      refine (nibble_any c _).mono ?_
      rintro e w1 ⟨rfl, rfl⟩
      go_wp2_with fail
      go_ret
      exact ⟨by rw [HL.out]; rfl, rfl⟩
    · clear h
      go_enter Tryz.func136, Tryz.ntmps136
      go_wp2_with fail
      refine (nibble_any c _).mono ?_
      rintro e w1 ⟨rfl, rfl⟩
      go_wp2_with fail
      go_ret
      exact ⟨by rw [HL.out]; rfl, rfl⟩
end Go.Proofs.YtbgmkplpolgebaaGreatDoor

namespace Go.Proofs.YtbgmkplpolgebaaGreatDoor
set_option linter.unusedSimpArgs false
set_option linter.unusedVariables false
open Go.Shelf Go.RowKit
def bren : Go.Shelf.Ren := ⟨fun | 167 => 113 | n => Tryz.lays156_ren.f n, Tryz.lays156_ren.t, Tryz.lays156_ren.g⟩
theorem lays166 : Go.Proofs.Lays.n166 Tryz.prog Tryz.lays156_ren := { Tryz.lays156 with }
theorem lays169 : Go.Proofs.Lays.n169 Tryz.prog Tryz.lays156_ren := { Tryz.lays156 with }
theorem lays167 : Go.Proofs.Lays.n167 Tryz.prog bren := { Tryz.lays156 with f167 := Tryz.func113.trans (congrArg some (by kernel_rfl)), f240 := Tryz.lays156.f240.trans (congrArg some (by kernel_rfl)), f276 := Tryz.lays156.f276.trans (congrArg some (by kernel_rfl)), t5 := Tryz.underlying5, a5 := Tryz.isAgg5, z5 := Tryz.sizeOf5, v5 := Tryz.zeroValue5 }
theorem extra167 : Builder.Extra Tryz.prog bren := { sizeBuilder := by kernel_rfl, liesBuilder := by kernel_rfl, t5 := Tryz.underlying5, a5 := Tryz.isAgg5, z5 := Tryz.sizeOf5, v5 := Tryz.zeroValue5, infoByte := by kernel_rfl, cellsByte := by kernel_rfl, sizeByte := by kernel_rfl, neB5 := by decide }
/-- The builder in block b holds the bytes l. -/
def Bld (w : World) (b : Nat) (l : List UInt8) : Prop := Lib.IsBuilderF 138 5 b b (Lib.byteCells l) w
/-- What a call on the builder leaves: blocks from the builder's on may turn; among these, only the builder and rows of bytes do. -/
def Wrote (b : Nat) (w w' : World) : Prop := Mod (fun k => b ≤ k) w w' ∧ Lib.OthersKept 5 (some b) w w'
theorem Wrote.mod {b : Nat} {w w' : World} (h : Wrote b w w') : Mod (fun k => b ≤ k) w w' := h.1
theorem Wrote.blk {b : Nat} {w w' : World} (h : Wrote b w w') {k : Nat} {cs : Array Value} {t : TypeId} (hb : Blk w k cs t) (hk : k ≠ b) (ht : t ≠ 5) : Blk w' k cs t :=
  h.2 k _ hb (fun e => hk (Option.some.inj e)) (fun c fz e => ht (by cases e; rfl))
theorem Wrote.trans {b : Nat} {w w' w'' : World} (h : Wrote b w w') (k : Wrote b w' w'') : Wrote b w w'' := ⟨h.1.trans k.1, h.2.trans k.2⟩
/-- Behind what made memory alone. -/
theorem Wrote.new {b : Nat} {w0 w w' : World} (hn : New w0 w) (h : Wrote b w w') (hb : w0.heap.size ≤ b) : New w0 w' := hn.trans' h.1 (fun i hi x => by omega)
theorem Bld.lt {w : World} {b : Nat} {l : List UInt8} (h : Bld w b l) : b < w.heap.size := by
  rcases h with h | h <;> exact h.lt
theorem builderAt_new {T e : TypeId} {B b : Nat} {p : Value} {bs : List Value} {w w' : World} (h : Lib.BuilderAtF T e B b p bs w) (hn : New w w') : Lib.BuilderAtF T e B b p bs w' := by
  obtain ⟨hB, v, hb, hown, hne⟩ := h
  have hlt : b < w.heap.size := Lib.BuilderAtF.lt ⟨hB, v, hb, hown, hne⟩
  refine ⟨hB, v, (hn.block b hlt (fun x => x)).trans hb, ?_, hne⟩
  refine hown.kept (row := none) ⟨hn.os, hn.tape, hn.output, hn.size, fun k hk _ => hn.block k hk (fun x => x)⟩ ?_
  rcases hown.2 with ⟨rfl, _⟩ | ⟨g, cap, cur, fz, rfl, _⟩
  · exact .inl rfl
  · exact .inr (by simp [Value.ownBlock])
theorem Bld.new {w w' : World} {b : Nat} {l : List UInt8} (h : Bld w b l) (hn : New w w') : Bld w' b l := by
  rcases h with h | h
  · exact .inl (builderAt_new h hn)
  · exact .inr (builderAt_new h hn)
theorem Bld.fresh (w : World) : Bld (w.alloc (.cells #[.pointer none, .slice none 0 0] 138)) w.heap.size [] := Lib.IsBuilderF.of (Lib.fresh_isBuilder _ _ w)
theorem write_any (b : Nat) (l : List UInt8) (s : ByteArray) (w : World) (h : Bld w b l) (hlen : l.length + s.size ≤ 140737488355328) :
    Calls Tryz.prog 114 #[.pointer (some ⟨b, 0, none⟩), .string s] w fun e w' => e = .returned (.tuple #[.int .i64 s.size, .nilIface]) ∧ Bld w' b (l ++ s.data.toList) ∧ Wrote b w w' := by
  refine (@Any.Builder_WriteString_k Tryz.prog Tryz.lays156_ren lays166 Tryz.Builder_Extra_156 b b (Lib.byteCells l) s w h (by rw [Lib.byteCells_length]; exact hlen) (Nat.le_of_lt h.lt)).mono fun e w' ⟨he, h1, h2, h3⟩ => ⟨he, ?_, Mod.of_below h2, h3⟩
  refine .inr ?_
  rw [Lib.byteCells_append, ← Lib.strCells_eq]
  exact h1
theorem string_any (b : Nat) (l : List UInt8) (w : World) (h : Bld w b l) :
    Calls Tryz.prog 116 #[.pointer (some ⟨b, 0, none⟩)] w fun e w' => e = .returned (.string ⟨l.toArray⟩) ∧ Bld w' b l ∧ Wrote b w w' :=
  (@Any.Builder_String_any_k Tryz.prog Tryz.lays156_ren lays169 Tryz.Builder_Extra_156 b b l w h (Nat.le_of_lt h.lt)).mono fun e w' ⟨he, h1, h2, h3⟩ => ⟨he, h1, Mod.of_below h2, h3⟩
theorem byte_any (b : Nat) (l : List UInt8) (c : UInt8) (w : World) (h : Bld w b l) (hlen : l.length + 1 ≤ 140737488355328) :
    Calls Tryz.prog 113 #[.pointer (some ⟨b, 0, none⟩), .int .u8 c.toNat] w fun e w' => e = .returned .nilIface ∧ Bld w' b (l ++ [c]) ∧ Wrote b w w' := by
  refine (@Any.Builder_WriteByte_k Tryz.prog bren lays167 extra167 b b (Lib.byteCells l) c.toNat w h (by rw [Lib.byteCells_length]; exact hlen) (Nat.le_of_lt h.lt)).mono fun e w' ⟨he, h1, h2, h3⟩ => ⟨he, ?_, Mod.of_below h2, h3⟩
  refine .inr ?_
  rw [Lib.byteCells_append]
  exact h1
theorem size_list (l : List UInt8) : (⟨l.toArray⟩ : ByteArray).size = l.length := by simp [ByteArray.size]
end Go.Proofs.YtbgmkplpolgebaaGreatDoor
