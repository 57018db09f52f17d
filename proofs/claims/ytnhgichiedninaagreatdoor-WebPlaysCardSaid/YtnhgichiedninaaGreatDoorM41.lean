/-
  Several texts in one, in their build order. Each deed of both clients in one word: they answer alike, and are alike behind it. Conditions: both lie as told and are alike. A strings.Builder that the call made: what it holds, and what writing and reading it do. Conditions: as they stand (lengths).
-/
import Derived.Test.YtnhgichiedninaaGreatDoorM40
import Derived.Test.YtnhgichiedninaaGreatDoorM2
import Derived.Test.YtnhgichiedninaaGreatDoorM1
import Derived.Shelf.Strings.BuilderK
namespace Go.Proofs.YtnhgichiedninaaGreatDoor
set_option linter.unusedSimpArgs false
set_option linter.unusedVariables false
open Go.RowKit Go.Shelf

/-- Behind a deed of the client. -/
def CDone (w' w : World) (B SB cap MB : Nat) (ps : List Nat) (c : CliV) (f : Nat → Option Nat) : Prop := ∃ G', CliAt w' B SB cap MB ps c G' ∧ GvAt G' f ∧ Mod (CliT B MB ps) w w'
def RDone (w' w : World) (R WB wc DB dc GB gc : Nat) (r : RefV) : Prop := RefAt w' R WB wc DB dc GB gc r ∧ Mod (RefT R WB DB GB) w w'
theorem took_facts {c : CliV} {now web : Int} (h : c.tookE now web = 0) : c.atE now = 0 ∧ ∃ (k : Nat) (s : SeedV), web = k ∧ c.seeds[k]? = some s ∧ s.under = true := by
  unfold CliV.tookE at h
  by_cases g : web < 0 ∨ (c.seeds.length : Int) ≤ web
  · rw [if_pos g] at h; cases h
  · rw [if_neg g] at h
    by_cases g2 : c.atE now ≠ 0
    · rw [if_pos g2] at h; exact absurd h g2
    · rw [if_neg g2] at h
      have hlt : web.toNat < c.seeds.length := by omega
      have hs := List.getElem?_eq_getElem hlt
      rw [hs] at h
      simp only at h
      refine ⟨by simpa using g2, web.toNat, _, by omega, hs, ?_⟩
      cases hu : c.seeds[web.toNat].under with
      | true => rfl
      | false => rw [hu] at h; simp at h
theorem both_took (B SB cap MB : Nat) (ps : List Nat) (c : CliV) (G : List (Value × Value)) (f : Nat → Option Nat) (R WB wc DB dc GB gc : Nat) (r : RefV) (N now web : Int) (w : World) (h : CliAt w B SB cap MB ps c G) (hG : GvAt G f) (hA : Alk N c f r) :
    ∃ (x y E : Int) (c' : CliV) (f' : Nat → Option Nat) (r' : RefV), Alk (N + 1) c' f' r' ∧
      Calls Tryz.prog 12 #[.pointer (some ⟨B, 0, none⟩), .int .i64 now, .int .i64 web] w (fun e w' => e = .returned (.tuple #[.agg #[.int .i64 x, .int .i64 y], .int .i64 E]) ∧ CDone w' w B SB cap MB ps c' f') ∧
      ∀ W, RefAt W R WB wc DB dc GB gc r → Calls Tryz.prog 14 #[.pointer (some ⟨R, 0, none⟩), .int .i64 now, .int .i64 web] W fun e w' => e = .returned (.tuple #[.agg #[.int .i64 x, .int .i64 y], .int .i64 E]) ∧ RDone w' W R WB wc DB dc GB gc r' := by
  by_cases g : c.tookE now web = 0
  · obtain ⟨h1, k, s, rfl, hs, hu⟩ := took_facts g
    have ht := at_time h1
    have h0 := hA.now0
    have e3 : (toW s).frm = s.frm := by unfold toW; rw [hu]; rfl
    have e4 : (toW s).cnt = s.cnt := by unfold toW; rw [hu]; rfl
    refine ⟨s.frm, s.cnt, 0, _, _, _, (hA.took (now := now) (by omega) hs hu).mono (by omega), ctook_yes B SB cap MB ps c G f now k s w h hG hs g, fun W hW => ?_⟩
    have := rtook_yes R WB wc DB dc GB gc r now k (toW s) W hW (hA.getW hs) (by rw [hA.tookEE]; exact g)
    rw [e3, e4] at this
    exact this
  · refine ⟨0, 0, c.tookE now web, c, f, r, hA.mono (by omega), (ctook_no B SB cap MB ps c G now web w h g).mono ?_, fun W hW => ?_⟩
    · rintro e w' ⟨rfl, n⟩
      exact ⟨rfl, G, h.new n, hG, New.mod n⟩
    · have := rtook_no R WB wc DB dc GB gc r now web W hW (by rw [hA.tookEE]; exact g)
      rw [hA.tookEE] at this
      refine this.mono ?_
      rintro e w' ⟨rfl, n⟩
      exact ⟨rfl, hW.new n, New.mod n⟩
theorem both_failed (B SB cap MB : Nat) (ps : List Nat) (c : CliV) (G : List (Value × Value)) (f : Nat → Option Nat) (R WB wc DB dc GB gc : Nat) (r : RefV) (N now web : Int) (gone : Bool) (w : World) (h : CliAt w B SB cap MB ps c G) (hG : GvAt G f) (hA : Alk N c f r) :
    ∃ (E : Int) (c' : CliV) (f' : Nat → Option Nat) (r' : RefV), Alk (N + 1) c' f' r' ∧
      Calls Tryz.prog 15 #[.pointer (some ⟨B, 0, none⟩), .int .i64 now, .int .i64 web, .bool gone] w (fun e w' => e = .returned (.int .i64 E) ∧ CDone w' w B SB cap MB ps c' f') ∧
      ∀ W, RefAt W R WB wc DB dc GB gc r → Calls Tryz.prog 16 #[.pointer (some ⟨R, 0, none⟩), .int .i64 now, .int .i64 web, .bool gone] W fun e w' => e = .returned (.int .i64 E) ∧ RDone w' W R WB wc DB dc GB gc r' := by
  by_cases g : c.tookE now web = 0
  · obtain ⟨h1, k, s, rfl, hs, hu⟩ := took_facts g
    have ht := at_time h1
    have h0 := hA.now0
    have ho := hA.okay s (List.mem_of_getElem? hs)
    refine ⟨0, _, f, _, (hA.fail (now := now) (by omega) hs hu gone).mono (by omega), (cFailed_yes B SB cap MB ps c G now k s gone w h hs g ho.f8).mono ?_, fun W hW => rFailed_yes R WB wc DB dc GB gc r now k (toW s) gone W hW (hA.getW hs) (by rw [hA.tookEE]; exact g) ho.f8⟩
    rintro e w' ⟨rfl, n, m⟩
    exact ⟨rfl, G, n, hG, m⟩
  · refine ⟨c.tookE now web, c, f, r, hA.mono (by omega), (cFailed_no B SB cap MB ps c G now web gone w h g).mono ?_, fun W hW => ?_⟩
    · rintro e w' ⟨rfl, n⟩
      exact ⟨rfl, G, h.new n, hG, New.mod n⟩
    · have := rFailed_no R WB wc DB dc GB gc r now web gone W hW (by rw [hA.tookEE]; exact g)
      rw [hA.tookEE] at this
      refine this.mono ?_
      rintro e w' ⟨rfl, n⟩
      exact ⟨rfl, hW.new n, New.mod n⟩
theorem both_bad (B SB cap MB : Nat) (ps : List Nat) (c : CliV) (G : List (Value × Value)) (f : Nat → Option Nat) (R WB wc DB dc GB gc : Nat) (r : RefV) (N now web piece : Int) (w : World) (h : CliAt w B SB cap MB ps c G) (hG : GvAt G f) (hA : Alk N c f r) (hN : N ≤ 1000) :
    ∃ (E : Int) (c' : CliV) (f' : Nat → Option Nat) (r' : RefV), Alk (N + 1) c' f' r' ∧
      Calls Tryz.prog 17 #[.pointer (some ⟨B, 0, none⟩), .int .i64 now, .int .i64 web, .int .i64 piece] w (fun e w' => e = .returned (.int .i64 E) ∧ CDone w' w B SB cap MB ps c' f') ∧
      ∀ W, RefAt W R WB wc DB dc GB gc r → Calls Tryz.prog 18 #[.pointer (some ⟨R, 0, none⟩), .int .i64 now, .int .i64 web, .int .i64 piece] W fun e w' => e = .returned (.int .i64 E) ∧ RDone w' W R WB wc DB dc GB gc r' := by
  by_cases g : c.badE f now web piece = 0
  · have hg := g
    unfold CliV.badE at hg
    by_cases g1 : web < 0 ∨ (c.seeds.length : Int) ≤ web ∨ piece < 0 ∨ (c.n : Int) ≤ piece
    · rw [if_pos g1] at hg; cases hg
    rw [if_neg g1] at hg
    have h1 : c.atE now = 0 := by
      by_cases g2 : c.atE now ≠ 0
      · rw [if_pos g2] at hg; exact absurd hg g2
      · simpa using g2
    obtain ⟨k, rfl⟩ := Int.eq_ofNat_of_zero_le (show 0 ≤ web by omega)
    obtain ⟨i, rfl⟩ := Int.eq_ofNat_of_zero_le (show 0 ≤ piece by omega)
    have hkl : k < c.seeds.length := by omega
    have hi : i < c.n := by omega
    have hs := List.getElem?_eq_getElem hkl
    have ht := at_time h1
    have h0 := hA.now0
    have ho := hA.okay _ (List.getElem_mem hkl)
    have hb := ho.bad
    refine ⟨0, _, _, _, hA.bad (now := now) (by omega) hs hi, cBad_yes B SB cap MB ps c G f now k i _ w h hG hs hi g (by omega), fun W hW => rBad_yes R WB wc DB dc GB gc r now k i _ W hW (hA.getW hs) (by rw [hA.lw]; exact hi) (by rw [hA.badEE]; exact g) (by show 0 ≤ c.seeds[k].bad ∧ c.seeds[k].bad ≤ 1000; omega)⟩
  · refine ⟨c.badE f now web piece, c, f, r, hA.mono (by omega), (cBad_no B SB cap MB ps c G f now web piece w h hG g).mono ?_, fun W hW => ?_⟩
    · rintro e w' ⟨rfl, n⟩
      exact ⟨rfl, G, h.new n, hG, New.mod n⟩
    · have := rBad_no R WB wc DB dc GB gc r now web piece W hW (by rw [hA.badEE]; exact g)
      rw [hA.badEE] at this
      refine this.mono ?_
      rintro e w' ⟨rfl, n⟩
      exact ⟨rfl, hW.new n, New.mod n⟩
theorem both_want (B SB cap MB : Nat) (ps : List Nat) (c : CliV) (G : List (Value × Value)) (f : Nat → Option Nat) (R WB wc DB dc GB gc : Nat) (r : RefV) (N piece : Int) (tb : Bool) (w : World) (h : CliAt w B SB cap MB ps c G) (hG : GvAt G f) (hA : Alk N c f r) :
    ∃ (E : Int) (c' : CliV) (f' : Nat → Option Nat) (r' : RefV), Alk (N + 1) c' f' r' ∧
      Calls Tryz.prog 19 #[.pointer (some ⟨B, 0, none⟩), .int .i64 piece, .bool tb] w (fun e w' => e = .returned (.int .i64 E) ∧ CDone w' w B SB cap MB ps c' f') ∧
      ∀ W, RefAt W R WB wc DB dc GB gc r → Calls Tryz.prog 20 #[.pointer (some ⟨R, 0, none⟩), .int .i64 piece, .bool tb] W fun e w' => e = .returned (.int .i64 E) ∧ RDone w' W R WB wc DB dc GB gc r' := by
  by_cases g : c.wantE piece = 0
  · have hg := g
    unfold CliV.wantE at hg
    by_cases g1 : piece < 0 ∨ (c.n : Int) ≤ piece
    · rw [if_pos g1] at hg; cases hg
    obtain ⟨i, rfl⟩ := Int.eq_ofNat_of_zero_le (show 0 ≤ piece by omega)
    have hi : i < c.n := by omega
    refine ⟨0, _, f, _, (hA.wants hi tb).mono (by omega), (cWant_yes B SB cap MB ps c G i tb w h hi).mono ?_, fun W hW => rWant_yes R WB wc DB dc GB gc r i tb W hW (by rw [hA.lw]; exact hi)⟩
    rintro e w' ⟨rfl, n, m⟩
    exact ⟨rfl, G, n, hG, m⟩
  · refine ⟨c.wantE piece, c, f, r, hA.mono (by omega), (cWant_no B SB cap MB ps c G piece tb w h g).mono ?_, fun W hW => ?_⟩
    · rintro e w' ⟨rfl, n⟩
      exact ⟨rfl, G, h.new n, hG, New.mod n⟩
    · have := rWant_no R WB wc DB dc GB gc r piece tb W hW (by rw [hA.wantEE]; exact g)
      rw [hA.wantEE] at this
      refine this.mono ?_
      rintro e w' ⟨rfl, n⟩
      exact ⟨rfl, hW.new n, New.mod n⟩
theorem both_next (B SB cap MB : Nat) (ps : List Nat) (c : CliV) (G : List (Value × Value)) (f : Nat → Option Nat) (R WB wc DB dc GB gc : Nat) (r : RefV) (N now : Int) (w : World) (h : CliAt w B SB cap MB ps c G) (hG : GvAt G f) (hA : Alk N c f r) :
    ∃ (z x y E : Int) (c' : CliV) (f' : Nat → Option Nat) (r' : RefV), Alk (N + 1) c' f' r' ∧
      Calls Tryz.prog 10 #[.pointer (some ⟨B, 0, none⟩), .int .i64 now] w (fun e w' => e = .returned (.tuple #[.int .i64 z, .agg #[.int .i64 x, .int .i64 y], .int .i64 E]) ∧ CDone w' w B SB cap MB ps c' f') ∧
      ∀ W, RefAt W R WB wc DB dc GB gc r → Calls Tryz.prog 21 #[.pointer (some ⟨R, 0, none⟩), .int .i64 now] W fun e w' => e = .returned (.tuple #[.int .i64 z, .agg #[.int .i64 x, .int .i64 y], .int .i64 E]) ∧ RDone w' W R WB wc DB dc GB gc r' := by
  by_cases g : c.nextE now = 0
  · obtain ⟨h1, k, b, hk, hb⟩ := next_facts g
    have ht := at_time h1
    have h0 := hA.now0
    refine ⟨k, c.nFrm, c.nCnt, 0, _, f, _, (hA.next (now := now) (by omega) g).mono (by omega), (cnext_yes B SB cap MB ps c G now w h g).mono ?_, fun W hW => (rnext_any R WB wc DB dc GB gc r now W hW hA.sane).mono ?_⟩
    · rintro e w' ⟨k2, e2, rfl, n, m⟩
      rw [hk] at e2
      cases e2
      exact ⟨rfl, G, n, hG, m⟩
    · rintro e w' (⟨q, -, -⟩ | ⟨-, k2, e2, rfl, n, m⟩)
      · rw [hA.nextEE] at q
        exact absurd g q
      · rw [hA.idxE, hk] at e2
        cases e2
        rw [hA.frmE, hA.cntE]
        exact ⟨rfl, n, m⟩
  · refine ⟨0, 0, 0, c.nextE now, c, f, r, hA.mono (by omega), (cnext_no B SB cap MB ps c G now w h g).mono ?_, fun W hW => (rnext_any R WB wc DB dc GB gc r now W hW hA.sane).mono ?_⟩
    · rintro e w' ⟨rfl, n⟩
      exact ⟨rfl, G, h.new n, hG, New.mod n⟩
    · rintro e w' (⟨-, rfl, n⟩ | ⟨q, -⟩)
      · rw [hA.nextEE]
        exact ⟨rfl, hW.new n, New.mod n⟩
      · rw [hA.nextEE] at q
        exact absurd q g
end Go.Proofs.YtnhgichiedninaaGreatDoor

namespace Go.Proofs.YtnhgichiedninaaGreatDoor
set_option linter.unusedSimpArgs false
set_option linter.unusedVariables false
open Go.Shelf Go.RowKit
def bren : Go.Shelf.Ren := ⟨fun | 167 => 132 | n => Tryz.lays156_ren.f n, Tryz.lays156_ren.t, Tryz.lays156_ren.g⟩
theorem lays166 : Go.Proofs.Lays.n166 Tryz.prog Tryz.lays156_ren := { Tryz.lays156 with }
theorem lays169 : Go.Proofs.Lays.n169 Tryz.prog Tryz.lays156_ren := { Tryz.lays156 with }
theorem lays167 : Go.Proofs.Lays.n167 Tryz.prog bren := { Tryz.lays156 with f167 := Tryz.func132.trans (congrArg some (by kernel_rfl)), f240 := Tryz.lays156.f240.trans (congrArg some (by kernel_rfl)), f276 := Tryz.lays156.f276.trans (congrArg some (by kernel_rfl)), t5 := Tryz.underlying5, a5 := Tryz.isAgg5, z5 := Tryz.sizeOf5, v5 := Tryz.zeroValue5 }
theorem extra167 : Builder.Extra Tryz.prog bren := { sizeBuilder := by kernel_rfl, liesBuilder := by kernel_rfl, t5 := Tryz.underlying5, a5 := Tryz.isAgg5, z5 := Tryz.sizeOf5, v5 := Tryz.zeroValue5, infoByte := by kernel_rfl, cellsByte := by kernel_rfl, sizeByte := by kernel_rfl, neB5 := by decide }
/-- The builder in block b holds the bytes l. -/
def Bld (w : World) (b : Nat) (l : List UInt8) : Prop := Lib.IsBuilderF 155 5 b b (Lib.byteCells l) w
/-- What a call on the builder leaves: blocks from the builder's on may turn; among these, only the builder and rows of bytes do. -/
def Wrote (b : Nat) (w w' : World) : Prop := Mod (fun k => b ≤ k) w w' ∧ Lib.OthersKept 5 (some b) w w'
theorem Wrote.mod {b : Nat} {w w' : World} (h : Wrote b w w') : Mod (fun k => b ≤ k) w w' := h.1
theorem Wrote.blk {b : Nat} {w w' : World} (h : Wrote b w w') {k : Nat} {cs : Array Value} {t : TypeId} (hb : Blk w k cs t) (hk : k ≠ b) (ht : t ≠ 5) : Blk w' k cs t :=
  h.2 k _ hb (fun e => hk (Option.some.inj e)) (fun c fz e => ht (by cases e; rfl))
theorem Wrote.trans {b : Nat} {w w' w'' : World} (h : Wrote b w w') (k : Wrote b w' w'') : Wrote b w w'' := ⟨h.1.trans k.1, h.2.trans k.2⟩
/-- Behind what made memory alone. -/
theorem Wrote.new {b : Nat} {w0 w w' : World} (hn : New w0 w) (h : Wrote b w w') (hb : w0.heap.size ≤ b) : New w0 w' := hn.trans' h.1 (fun i hi x => by omega)
theorem Bld.lt {w : World} {b : Nat} {l : List UInt8} (h : Bld w b l) : b < w.heap.size := by
  rcases h with h | h <;> exact h.lt
theorem builderAt_new {T e : TypeId} {B b : Nat} {p : Value} {bs : List Value} {w w' : World} (h : Lib.BuilderAtF T e B b p bs w) (hn : New w w') : Lib.BuilderAtF T e B b p bs w' := by
  obtain ⟨hB, v, hb, hown, hne⟩ := h
  have hlt : b < w.heap.size := Lib.BuilderAtF.lt ⟨hB, v, hb, hown, hne⟩
  refine ⟨hB, v, (hn.block b hlt (fun x => x)).trans hb, ?_, hne⟩
  refine hown.kept (row := none) ⟨hn.os, hn.tape, hn.output, hn.size, fun k hk _ => hn.block k hk (fun x => x)⟩ ?_
  rcases hown.2 with ⟨rfl, _⟩ | ⟨g, cap, cur, fz, rfl, _⟩
  · exact .inl rfl
  · exact .inr (by simp [Value.ownBlock])
theorem Bld.new {w w' : World} {b : Nat} {l : List UInt8} (h : Bld w b l) (hn : New w w') : Bld w' b l := by
  rcases h with h | h
  · exact .inl (builderAt_new h hn)
  · exact .inr (builderAt_new h hn)
theorem Bld.fresh (w : World) : Bld (w.alloc (.cells #[.pointer none, .slice none 0 0] 155)) w.heap.size [] := Lib.IsBuilderF.of (Lib.fresh_isBuilder _ _ w)
theorem Bld.freshAt {w : World} {b : Nat} (hb : b = w.heap.size) : Bld (w.alloc (.cells #[.pointer none, .slice none 0 0] 155)) b [] := by subst hb; exact Bld.fresh w
theorem write_any (b : Nat) (l : List UInt8) (s : ByteArray) (w : World) (h : Bld w b l) (hlen : l.length + s.size ≤ 140737488355328) :
    Calls Tryz.prog 99 #[.pointer (some ⟨b, 0, none⟩), .string s] w fun e w' => e = .returned (.tuple #[.int .i64 s.size, .nilIface]) ∧ Bld w' b (l ++ s.data.toList) ∧ Wrote b w w' := by
  refine (@Any.Builder_WriteString_k Tryz.prog Tryz.lays156_ren lays166 Tryz.Builder_Extra_156 b b (Lib.byteCells l) s w h (by rw [Lib.byteCells_length]; exact hlen) (Nat.le_of_lt h.lt)).mono fun e w' ⟨he, h1, h2, h3⟩ => ⟨he, ?_, Mod.of_below h2, h3⟩
  refine .inr ?_
  rw [Lib.byteCells_append, ← Lib.strCells_eq]
  exact h1
theorem string_any (b : Nat) (l : List UInt8) (w : World) (h : Bld w b l) :
    Calls Tryz.prog 101 #[.pointer (some ⟨b, 0, none⟩)] w fun e w' => e = .returned (.string ⟨l.toArray⟩) ∧ Bld w' b l ∧ Wrote b w w' :=
  (@Any.Builder_String_any_k Tryz.prog Tryz.lays156_ren lays169 Tryz.Builder_Extra_156 b b l w h (Nat.le_of_lt h.lt)).mono fun e w' ⟨he, h1, h2, h3⟩ => ⟨he, h1, Mod.of_below h2, h3⟩
theorem byte_any (b : Nat) (l : List UInt8) (c : UInt8) (w : World) (h : Bld w b l) (hlen : l.length + 1 ≤ 140737488355328) :
    Calls Tryz.prog 132 #[.pointer (some ⟨b, 0, none⟩), .int .u8 c.toNat] w fun e w' => e = .returned .nilIface ∧ Bld w' b (l ++ [c]) ∧ Wrote b w w' := by
  refine (@Any.Builder_WriteByte_k Tryz.prog bren lays167 extra167 b b (Lib.byteCells l) c.toNat w h (by rw [Lib.byteCells_length]; exact hlen) (Nat.le_of_lt h.lt)).mono fun e w' ⟨he, h1, h2, h3⟩ => ⟨he, ?_, Mod.of_below h2, h3⟩
  refine .inr ?_
  rw [Lib.byteCells_append]
  exact h1
theorem size_list (l : List UInt8) : (⟨l.toArray⟩ : ByteArray).size = l.length := by simp [ByteArray.size]
end Go.Proofs.YtnhgichiedninaaGreatDoor
