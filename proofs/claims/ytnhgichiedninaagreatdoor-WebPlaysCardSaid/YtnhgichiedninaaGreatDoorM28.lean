/-
  Several texts in one, in their build order. The walks of web.Valid and of the reference's. Condition: the text's length is an int. Are all of the texts web seeds (package web, New's first question). Condition: the texts lie as told. Contracts of the kit's shelf laid at this program, in plain words, written by the kit's tool. No condition. The walk of New (package web) when all is right. Conditions: the texts lie as told.
-/
import Derived.Test.YtnhgichiedninaaGreatDoorM27
import Derived.Test.YtnhgichiedninaaGreatDoorM4
import Derived.Test.YtnhgichiedninaaGreatDoorM3
import Derived.Shelf.Strings.Builder1
import Derived.Shelf.Strings.Builder2
import Derived.Shelf.Strings.OnBuilder
import Derived.Shelf.Small.Utf8
import Derived.Shelf.Small.Bits
import Derived.Shelf.Small.Strs
import Derived.Shelf.Strings.BuilderF
import Derived.Shelf.Strings.BuilderK
import Derived.Shelf.Strconv.Itoa0
import Derived.Shelf.Strconv.Itoa1
import Derived.Shelf.LaysM
import Derived.Shelf.Strconv.Itoa2
import Derived.Shelf.Strconv.Itoa3
import Derived.Shelf.Strings.Search1
import Derived.Shelf.Strings.Search2
import Derived.Shelf.Strings.Search3
import Derived.Shelf.Strings.Shaped
import Derived.Shelf.Strings.Prefix
import Derived.Shelf.Unicode.Latin
import Derived.Shelf.Bits.Mul64
import Derived.Shelf.Strings.Repeat
import Derived.Shelf.Unicode.DecodeSlow
import Derived.Shelf.Unicode.CaseLookup
import Derived.Shelf.Unicode.CaseConvert
import Derived.Shelf.Unicode.CaseTo
import Derived.Shelf.Unicode.CaseLaid
import Derived.Shelf.Slices.Turned
import Derived.Shelf.Slices.Equal
import Derived.Shelf.Slices.Empties2
import Derived.Test.YtnhgichiedninaaGreatDoorProg
import Derived.Test.YtnhgichiedninaaGreatDoorM14
namespace Go.Proofs.YtnhgichiedninaaGreatDoor
set_option linter.unusedSimpArgs false
set_option linter.unusedVariables false
open Go.RowKit Go.Shelf

theorem prefix_eq (s : ByteArray) (p : List UInt8) {v : Bool} (h : Lib.hasPrefix s.data.toList p = v) (w : World) : Calls Tryz.prog 73 #[.string s, .string ⟨p.toArray⟩] w fun e w' => e = .returned (.bool v) ∧ w = w' :=
  (Tryz.strings_HasPrefix s ⟨p.toArray⟩ w).mono fun e w' ⟨he, hw⟩ => ⟨by rw [he, ← h], hw.symm⟩
set_option maxRecDepth 100000 in
theorem wValid_any (u : ByteArray) (w : World) (hu : u.size ≤ 9223372036854775807) : Calls Tryz.prog 33 #[.string u] w fun e w' => e = .returned (.bool (validU u)) ∧ w = w' := by
  by_cases h200 : u.size ≤ 200
  · have e0 : decide ((u.size : Int) ≤ 200) = true := decide_eq_true (by omega)
    have hv : validU u = (Lib.hasPrefix u.data.toList httpB || Lib.hasPrefix u.data.toList httpsB) := by simp [validU, h200]
    rw [hv]
    cases h1 : Lib.hasPrefix u.data.toList httpB with
    | true =>
      have H1 := hid (fun w => prefix_eq u httpB h1 w)
      have H2 := hid True.intro
      clear hv h1
      go_enter Tryz.func33, Tryz.ntmps33
      go_wp2_with fail
      refine (H1.out _).mono ?_
      rintro e w1 ⟨rfl, rfl⟩
      go_wp2
      go_ret
      exact ⟨rfl, rfl⟩
    | false =>
      cases h2 : Lib.hasPrefix u.data.toList httpsB with
      | true =>
        have H1 := hid (fun w => prefix_eq u httpB h1 w)
        have H2 := hid (fun w => prefix_eq u httpsB h2 w)
        clear hv h1 h2
        go_enter Tryz.func33, Tryz.ntmps33
        go_wp2_with fail
        refine (H1.out _).mono ?_
        rintro e w1 ⟨rfl, rfl⟩
        go_wp2_with fail
        refine (H2.out _).mono ?_
        rintro e w1 ⟨rfl, rfl⟩
        go_wp2
        go_ret
        exact ⟨rfl, rfl⟩
      | false =>
        have H1 := hid (fun w => prefix_eq u httpB h1 w)
        have H2 := hid (fun w => prefix_eq u httpsB h2 w)
        clear hv h1 h2
        go_enter Tryz.func33, Tryz.ntmps33
        go_wp2_with fail
        refine (H1.out _).mono ?_
        rintro e w1 ⟨rfl, rfl⟩
        go_wp2_with fail
        refine (H2.out _).mono ?_
        rintro e w1 ⟨rfl, rfl⟩
        go_wp2
        go_ret
        exact ⟨rfl, rfl⟩
  · have e0 : decide ((u.size : Int) ≤ 200) = false := decide_eq_false (by omega)
    have hv : validU u = false := by simp [validU, h200]
    rw [hv]
    clear hv
    go_enter Tryz.func33, Tryz.ntmps33
    go_wp2
    go_ret
    exact ⟨rfl, rfl⟩
set_option maxRecDepth 100000 in
theorem wrValid_any (u : ByteArray) (w : World) (hu : u.size ≤ 9223372036854775807) : Calls Tryz.prog 43 #[.string u] w fun e w' => e = .returned (.bool (validU u)) ∧ w = w' := by
  by_cases h200 : u.size ≤ 200
  · have e0 : decide ((u.size : Int) ≤ 200) = true := decide_eq_true (by omega)
    have hv : validU u = (Lib.hasPrefix u.data.toList httpB || Lib.hasPrefix u.data.toList httpsB) := by simp [validU, h200]
    rw [hv]
    cases h1 : Lib.hasPrefix u.data.toList httpB with
    | true =>
      have H1 := hid (fun w => prefix_eq u httpB h1 w)
      have H2 := hid True.intro
      clear hv h1
      go_enter Tryz.func43, Tryz.ntmps43
      go_wp2_with fail
      refine (H1.out _).mono ?_
      rintro e w1 ⟨rfl, rfl⟩
      go_wp2
      go_ret
      exact ⟨rfl, rfl⟩
    | false =>
      cases h2 : Lib.hasPrefix u.data.toList httpsB with
      | true =>
        have H1 := hid (fun w => prefix_eq u httpB h1 w)
        have H2 := hid (fun w => prefix_eq u httpsB h2 w)
        clear hv h1 h2
        go_enter Tryz.func43, Tryz.ntmps43
        go_wp2_with fail
        refine (H1.out _).mono ?_
        rintro e w1 ⟨rfl, rfl⟩
        go_wp2_with fail
        refine (H2.out _).mono ?_
        rintro e w1 ⟨rfl, rfl⟩
        go_wp2
        go_ret
        exact ⟨rfl, rfl⟩
      | false =>
        have H1 := hid (fun w => prefix_eq u httpB h1 w)
        have H2 := hid (fun w => prefix_eq u httpsB h2 w)
        clear hv h1 h2
        go_enter Tryz.func43, Tryz.ntmps43
        go_wp2_with fail
        refine (H1.out _).mono ?_
        rintro e w1 ⟨rfl, rfl⟩
        go_wp2_with fail
        refine (H2.out _).mono ?_
        rintro e w1 ⟨rfl, rfl⟩
        go_wp2
        go_ret
        exact ⟨rfl, rfl⟩
  · have e0 : decide ((u.size : Int) ≤ 200) = false := decide_eq_false (by omega)
    have hv : validU u = false := by simp [validU, h200]
    rw [hv]
    clear hv
    go_enter Tryz.func43, Tryz.ntmps43
    go_wp2
    go_ret
    exact ⟨rfl, rfl⟩
end Go.Proofs.YtnhgichiedninaaGreatDoor

namespace Go.Proofs.YtnhgichiedninaaGreatDoor
set_option linter.unusedSimpArgs false
set_option linter.unusedVariables false
open Go.RowKit

theorem new1_any (s : ByteArray) (w : World) (hs : s.size ≤ maxLen) : Calls Tryz.prog 32 #[.string s] w fun e w' => e = .returned (.bool (!validU s)) ∧ w = w' := by
  unfold maxLen at hs
  have HV := hid (wValid_any s w (by omega))
  go_enter Tryz.func32, Tryz.ntmps32
  go_wp2_with fail
  refine HV.out.mono ?_
  rintro e w1 ⟨rfl, rfl⟩
  go_wp2
  go_ret
  exact ⟨rfl, rfl⟩
theorem allU_upto {p : List ByteArray} {k : Nat} (hk : ¬ k < p.length) (h : ∀ (j : Nat) (hj : j < p.length), j < k → validU p[j] = true) : p.all validU = true := by
  rw [List.all_eq_true]
  intro x hx
  obtain ⟨j, hj, rfl⟩ := List.mem_iff_getElem.1 hx
  exact h j hj (by omega)
theorem allU_not {p : List ByteArray} {k : Nat} (hk : k < p.length) (h : validU p[k] = false) : p.all validU = false := by
  rw [List.all_eq_false]
  exact ⟨_, List.getElem_mem hk, by simp [h]⟩
set_option maxHeartbeats 1000000 in
theorem idxU_any (a : Option Addr) (c : Nat) (p : List ByteArray) (w : World) (h : StrsAt w a c p) :
    Calls Tryz.prog 72 #[.slice a p.length c, .func (.func 32) #[] #[]] w fun e w' => ∃ v : Int, e = .returned (.int .i64 v) ∧ decide (v ≥ 0) = !(p.all validU) ∧ w = w' := by
  have hm1 := h.room; have hm2 := h.cap
  unfold maxLen at hm2
  by_cases hz : 0 < p.length
  · obtain ⟨b1, o1, rfl, hb1, hc1⟩ := h.get hz
    have HS := hid h.small
    clear h
    go_enter Tryz.func72, Tryz.ntmps72
    go_wp2
    go_loopw [8] (fun i wr => ∃ k : Nat, i = .int .i64 k ∧ k ≤ p.length ∧ (∀ (j : Nat) (hj : j < p.length), j < k → validU p[j] = true) ∧ wr = w) (fun i _ => p.length - (intOf i).toNat)
    case atStart => exact ⟨0, rfl, by omega, by intros; omega, rfl⟩
    case round =>
      obtain ⟨k, rfl, hk, hb, rfl⟩ := hrel
      have HB := hid hb
      clear hb
      by_cases hlt : k < p.length
      · have g1 := hc1 k hlt
        have HC1 := hid hc1
        clear hc1
        have hsz : (p[k]).size ≤ maxLen := HS.out _ (List.getElem_mem hlt)
        have HP := hid (new1_any p[k] wr hsz)
        clear hsz
        cases he : validU p[k] with
        | true =>
          rw [he] at HP
          have HE := hid he
          clear he
          go_wp2_with (go_at_call 32; refine HP.out.mono ?_; rintro e w1 ⟨rfl, rfl⟩)
          exact ⟨⟨k + 1, by simp, by omega, fun j hj h => by rcases Nat.lt_succ_iff_lt_or_eq.1 h with h | h; exact HB.out j hj h; subst h; exact HE.out, trivial⟩, by simp [intOf]; omega⟩
        | false =>
          rw [he] at HP
          have HE := hid (allU_not hlt he)
          clear he
          go_wp2_with (go_at_call 32; refine HP.out.mono ?_; rintro e w1 ⟨rfl, rfl⟩)
          go_ret
          exact ⟨k, rfl, by rw [HE.out]; simp, rfl⟩
      · have HE := hid (allU_upto hlt (fun j hj h => HB.out j hj h))
        clear hc1
        go_wp2
        go_ret
        exact ⟨-1, rfl, by rw [HE.out]; rfl, rfl⟩
  · obtain rfl : p = [] := List.eq_nil_of_length_eq_zero (by omega)
    clear h
    go_enter Tryz.func72, Tryz.ntmps72
    go_wp2
    refine wp_loop_rounds 1 ?_
    rw [rounds_succ]
    go_wp2
    go_ret
    exact ⟨-1, rfl, rfl, rfl⟩
set_option maxHeartbeats 1000000 in
theorem conU_any (a : Option Addr) (c : Nat) (p : List ByteArray) (w : World) (h : StrsAt w a c p) :
    Calls Tryz.prog 31 #[.slice a p.length c, .func (.func 32) #[] #[]] w fun e w' => e = .returned (.bool (!(p.all validU))) ∧ w = w' := by
  have HI := hid (idxU_any a c p w h)
  clear h
  go_enter Tryz.func31, Tryz.ntmps31
  go_wp2_with fail
  refine HI.out.mono ?_
  rintro e w1 ⟨v, rfl, hv, rfl⟩
  have HV := hid hv
  clear hv
  go_wp2
  go_ret
  exact ⟨ret_bool HV.out, rfl⟩
end Go.Proofs.YtnhgichiedninaaGreatDoor

namespace Go.Proofs
open Go.Shelf
def Tryz.lays110_ren : Go.Shelf.Ren := ⟨fun | 110 => 35 | 109 => 75 | n => n, fun | 31 => 22 | 9 => 9 | 4 => 4 | 3 => 3 | 0 => 0 | n => n, fun | n => n⟩
theorem Tryz.lays110 : Go.Proofs.Lays.n110 Tryz.prog Tryz.lays110_ren := {
  mixed := by kernel_rfl
  f109 := Tryz.func75.trans (congrArg some (by kernel_rfl))
  f110 := Tryz.func35.trans (congrArg some (by kernel_rfl))
  t0 := Tryz.underlying0
  a0 := Tryz.isAgg0
  z0 := Tryz.sizeOf0
  v0 := Tryz.zeroValue0
  t3 := Tryz.underlying3
  a3 := Tryz.isAgg3
  z3 := Tryz.sizeOf3
  v3 := Tryz.zeroValue3
  t4 := Tryz.underlying4
  a4 := Tryz.isAgg4
  z4 := Tryz.sizeOf4
  v4 := Tryz.zeroValue4
  t9 := Tryz.underlying9
  a9 := Tryz.isAgg9
  z9 := Tryz.sizeOf9
  v9 := Tryz.zeroValue9
  t31 := Tryz.underlying22
  a31 := Tryz.isAgg22
  z31 := Tryz.sizeOf22
  v31 := Tryz.zeroValue22 }
open Go.Lib in
theorem Tryz.slices_Contains_string (b off n c : Nat) (zs : List ByteArray) (x : ByteArray) (w : World) (hz : n ≤ zs.length) (hbig : n ≤ 9223372036854775807) (hc : ∀ j, j < zs.length → w.cell? ⟨b, off + j, none⟩ = some (.string (zs.getD j ByteArray.empty))) :
    Calls Tryz.prog 35 #[.slice (some ⟨b, off, none⟩) n c, .string x] w fun e w' => e = .returned (.bool (Lib.containsS (zs.take n) x)) ∧ w' = w := Any.slices_Contains_string Tryz.lays110 b off n c zs x w hz hbig hc
end Go.Proofs

namespace Go.Proofs.YtnhgichiedninaaGreatDoor
set_option linter.unusedSimpArgs false
set_option linter.unusedVariables false
open Go.RowKit Go.Shelf

theorem info_ptr : (Tryz.prog.info? 80).map (fun i => (i.zero, i.size, i.bytes)) = some (some (.pointer none), 1, 8) := by kernel_rfl
/-- Blocks of different kinds are different. -/
theorem blk_ne {w : World} {b b' : Nat} {cs cs' : Array Value} {t t' : TypeId} (h : Blk w b cs t) (h' : Blk w b' cs' t') (ht : t ≠ t') : b ≠ b' := by
  intro e
  subst e
  unfold Blk at h h'
  rw [h] at h'
  injection h' with h'
  injection h' with _ h' _
  exact ht h'
theorem blk_map_ne {w : World} {b b' : Nat} {cs : Array Value} {t : TypeId} {d : TypeDesc} {L : List (Value × Value)} (h : Blk w b cs t) (h' : MapL w b' d L) : b ≠ b' := by
  intro e
  subst e
  obtain ⟨es, cl, hb, -⟩ := h'
  unfold Blk at h
  rw [h] at hb
  cases hb
def ptrV (p : Nat) : Value := .pointer (some ⟨p, 0, none⟩)
/-- How a client that is being made lies: k seeds so far. -/
structure NewAt (w0 w : World) (B M : Nat) (n : Nat) (s : ByteArray) (run : Int) (v : Value) (ps : List Nat) : Prop where
  row : Blk w B #[v, .int .i64 n, .string s, .int .i64 run, .int .i64 0, .map (some M)] 78
  own : w.ownsRow w0.heap.size 80 1 v ps.length (ps.map ptrV)
  each : ∀ p ∈ ps, Blk w p (seedRow seed0) 82
  lo : ∀ p ∈ ps, w0.heap.size ≤ p
  nodup : ps.Nodup
  gave : MapL w M (.int .i64) []
  b0 : w0.heap.size ≤ B ∧ w0.heap.size ≤ M
  new' : New w0 w
theorem ownsZ_new {w w' : World} {base : Nat} {e : TypeId} {k : Nat} {v : Value} {n : Nat} {xs : List Value} (h : w.ownsRow base e k v n xs) (hn : New w w') : w'.ownsRow base e k v n xs := by
  cases hv : v.ownBlock with
  | none => exact h.kept (row := none) ⟨hn.os, hn.tape, hn.output, hn.size, fun k hk _ => hn.block k hk (fun x => x)⟩ (.inl hv)
  | some k => exact h.kept (row := none) ⟨hn.os, hn.tape, hn.output, hn.size, fun k hk _ => hn.block k hk (fun x => x)⟩ (.inr (by rw [hv]; simp))
theorem NewAt.new {w0 w w' : World} {B M n : Nat} {s : ByteArray} {run : Int} {v : Value} {ps : List Nat} (h : NewAt w0 w B M n s run v ps) (hn : New w w') : NewAt w0 w' B M n s run v ps :=
  ⟨New.blk hn h.row, ownsZ_new h.own hn, fun p hp => New.blk hn (h.each p hp), h.lo, h.nodup, h.gave.new hn, h.b0, h.new'.trans hn⟩
theorem NewAt.rowAt {w0 w w4 : World} {B M n : Nat} {s : ByteArray} {run : Int} {v : Value} {ps : List Nat} (h : NewAt w0 w B M n s run v ps)
    (g4 : ((w.alloc (.cells (seedRow seed0) 82)).alloc (.cells #[ptrV w.heap.size] 80)).grownBy w4 v.ownBlock) : Blk w4 B #[v, .int .i64 n, .string s, .int .i64 run, .int .i64 0, .map (some M)] 78 := by
  have hn2 : New w ((w.alloc (.cells (seedRow seed0) 82)).alloc (.cells #[ptrV w.heap.size] 80)) := ((Mod.refl _ _).alloc _).alloc _
  have hm4 : Mod (fun q => some q = v.ownBlock) ((w.alloc (.cells (seedRow seed0) 82)).alloc (.cells #[ptrV w.heap.size] 80)) w4 := ⟨g4.os, g4.tape, g4.output, g4.size, fun q hq hx => g4.block q hq hx⟩
  have hob : ∀ q, some q = v.ownBlock → ∃ cur, Blk w q cur 80 := fun q hq => by
    rcases h.own.2 with ⟨rfl, -⟩ | ⟨g, cap, cur, rfl, -, hg, -⟩
    · cases hq
    · have e : q = g := by injection hq
      subst e
      exact ⟨cur, hg⟩
  exact hm4.blk (New.blk hn2 h.row) (fun q => by obtain ⟨cur, hc⟩ := hob _ q; exact blk_ne h.row hc (by decide) rfl)
theorem NewAt.push {w0 w w4 : World} {B M n : Nat} {s : ByteArray} {run : Int} {v o4 : Value} {ps : List Nat} {k : Nat} (h : NewAt w0 w B M n s run v ps) (hk : ps.length = k)
    (r4 : w4.ownsRow w0.heap.size 80 1 o4 (k + 1) (ps.map ptrV ++ [ptrV w.heap.size]))
    (g4 : ((w.alloc (.cells (seedRow seed0) 82)).alloc (.cells #[ptrV w.heap.size] 80)).grownBy w4 v.ownBlock) : NewAt w0 (w4.setCell ⟨B, 0, none⟩ o4) B M n s run o4 (ps ++ [w.heap.size]) := by
  have hlo : ∀ g, v.ownBlock = some g → g < w.heap.size := fun g hg => (World.ownsRow.lt h.own g hg).2
  have hn2 : New w ((w.alloc (.cells (seedRow seed0) 82)).alloc (.cells #[ptrV w.heap.size] 80)) := ((Mod.refl _ _).alloc _).alloc _
  have hm4 : Mod (fun q => some q = v.ownBlock) ((w.alloc (.cells (seedRow seed0) 82)).alloc (.cells #[ptrV w.heap.size] 80)) w4 := ⟨g4.os, g4.tape, g4.output, g4.size, fun q hq hx => g4.block q hq hx⟩
  have hob : ∀ q, some q = v.ownBlock → ∃ cur, Blk w q cur 80 := fun q hq => by
    rcases h.own.2 with ⟨rfl, -⟩ | ⟨g, cap, cur, rfl, -, hg, -⟩
    · cases hq
    · have e : q = g := by injection hq
      subst e
      exact ⟨cur, hg⟩
  have hrowB := h.rowAt g4
  have hseed : Blk w4 w.heap.size (seedRow seed0) 82 := hm4.blk ((Blk.new w _ _).alloc _) (fun q => by have := hlo _ q.symm; omega)
  have hBn : B ≠ w.heap.size := by have := h.row.lt; omega
  have hfar4 : o4.ownBlock ≠ some B := fun q => by
    rcases r4.2 with ⟨rfl, -⟩ | ⟨g, cap, cur, rfl, -, hg, -⟩
    · cases q
    · have e : g = B := by injection q
      subst e
      exact blk_ne hrowB (show Blk w4 g cur 80 from hg) (by decide) rfl
  have hset : Mod (fun q => q = B) w4 (w4.setCell ⟨B, 0, none⟩ o4) := Mod.set (S := fun q => q = B) (Mod.refl _ _) ⟨B, 0, none⟩ _ (.inl rfl)
  refine ⟨(hrowB.set 0 _).row (by simp), ?_, fun p hp => ?_, fun p hp => ?_, ?_, ?_, h.b0, ?_⟩
  · rw [List.length_append, List.map_append, hk]
    exact r4.kept (row := some B) ⟨hset.os, hset.tape, hset.output, hset.size, fun q hq hx => hset.block q hq (fun e => hx (by rw [e]))⟩ (.inr hfar4)
  · rcases List.mem_append.1 hp with q | q
    · have h1 := h.each p q
      have h2 : Blk w4 p (seedRow seed0) 82 := hm4.blk (New.blk hn2 h1) (fun e => by obtain ⟨cur, hc⟩ := hob _ e; exact blk_ne h1 hc (by decide) rfl)
      exact hset.blk h2 (fun e => blk_ne h1 h.row (by decide) e)
    · rw [List.mem_singleton] at q
      subst q
      exact hset.blk hseed (fun e => hBn e.symm)
  · rcases List.mem_append.1 hp with q | q
    · exact h.lo p q
    · rw [List.mem_singleton] at q
      rw [q]
      exact h.new'.size
  · rw [List.nodup_append]
    refine ⟨h.nodup, by simp, fun x hx y hy e => ?_⟩
    rw [List.mem_singleton] at hy
    have := (h.each x hx).lt
    omega
  · have hne : ∀ q, some q = v.ownBlock → M ≠ q := fun q hq e => by
      obtain ⟨cur, hc⟩ := hob _ hq
      exact blk_map_ne hc h.gave e.symm
    exact ((h.gave.new hn2).mod hm4 (fun q => hne _ q rfl)).mod hset (fun e => blk_map_ne h.row h.gave e.symm)
  · exact (newGrown (h.new'.trans hn2) g4 (fun q hq => (World.ownsRow.lt h.own q hq).1)).trans' hset (fun q hq e => by have := h.b0; omega)
theorem NewAt.cli {w0 w : World} {B M n : Nat} {s : ByteArray} {run : Int} {v : Value} {ps : List Nat} (h : NewAt w0 w B M n s run v ps) (hl : 1 ≤ ps.length ∧ ps.length ≤ 20) (hn : n ≤ 4096) (hf : FieldOf n s.data.toList) (hr : 1 ≤ run ∧ run ≤ 16) :
    ∃ SB cap, CliAt w B SB cap M ps ⟨List.replicate ps.length seed0, n, s.data.toList, run, 0⟩ [] ∧ ∀ k, k < w0.heap.size → ¬ CliT B M ps k := by
  rcases h.own.2 with ⟨-, q⟩ | ⟨g, cap, cur, rfl, hbg, hg, hnc, hcm, hcs, htake⟩
  · omega
  · have hgb : Blk w g cur 80 := hg
    have hlt := hgb.lt
    refine ⟨g, cap, ⟨?_, ?_, ?_, hlt, by simp, fun i p hp => ?_, fun i p s hp hs => ?_, h.gave, hf, hn, h.nodup, ?_, ?_, ?_⟩, fun k hk q => ?_⟩
    · have e : (⟨s.data.toList.toArray⟩ : ByteArray) = s := by cases s; simp
      simp only [List.length_replicate, e]
      exact h.row
    · simpa using hl
    · simp only [List.length_replicate]
      exact ⟨hnc, hcm⟩
    · have h1 := h.own.cells (g := g) rfl i (ptrV p) (by rw [List.getElem?_map, hp]; rfl)
      have hadd : ∀ k, (⟨g, 0, none⟩ : Addr).add k = ⟨g, 0 + k, none⟩ := fun k => by unfold Addr.add; split <;> simp_all
      rw [hadd, Nat.zero_add] at h1
      exact h1
    · rw [List.getElem?_replicate] at hs
      split at hs
      · injection hs with hs
        subst hs
        exact h.each p (List.mem_of_getElem? hp)
      · cases hs
    · refine ⟨fun q => blk_ne h.row (h.each _ q) (by decide) rfl, fun q => blk_ne hgb (h.each _ q) (by decide) rfl, fun q => blk_map_ne (h.each _ q) h.gave rfl, blk_ne h.row hgb (by decide), blk_map_ne h.row h.gave, blk_map_ne hgb h.gave⟩
    · intro s hs
      rw [List.eq_of_mem_replicate hs]
      exact ⟨by decide, by decide, by show (0 : Int) + 0 ≤ _; omega⟩
    · exact ⟨hr.1, hr.2, by show (0 : Int) ≤ 0; decide, by show (0 : Int) ≤ 1000000000; decide⟩
    · rcases q with rfl | rfl | q
      · have := h.b0.1; omega
      · have := h.b0.2; omega
      · have := h.lo k q; omega
def dupIn (p : List ByteArray) (k : Nat) : Bool := match p[k]? with
  | some s => Lib.containsS (p.take k) s
  | none => false
set_option maxRecDepth 100000 in
set_option maxHeartbeats 8000000 in
theorem cnew_ok (a : Option Addr) (cp : Nat) (p : List ByteArray) (n : Nat) (s : ByteArray) (run : Int) (w : World) (h : StrsAt w a cp p) (hv : p.all validU = true) (hn : n ≤ 4096) (hf : FieldOf n s.data.toList) (hr : 1 ≤ run ∧ run ≤ 16) (hl : 1 ≤ p.length ∧ p.length ≤ 20) (hd : ∀ k, k < p.length → dupIn p k = false) :
    Calls Tryz.prog 8 #[.slice a p.length cp, .int .i64 n, .string s, .int .i64 run] w fun e w' => ∃ B SB cap MB ps, e = .returned (.tuple #[.pointer (some ⟨B, 0, none⟩), .int .i64 0]) ∧ CliAt w' B SB cap MB ps ⟨List.replicate p.length seed0, n, s.data.toList, run, 0⟩ [] ∧ New w w' ∧ ∀ k, k < w.heap.size → ¬ CliT B MB ps k := by
  have HCO := hid (conU_any a cp p w h)
  have HBV := hid (bvalid_ok n s w hf hn)
  rw [hv] at HCO
  obtain ⟨b1, o1, rfl, hb1, hc1⟩ := h.get (by omega)
  have hpc := h.room; have hpm := h.cap
  unfold maxLen at hpm
  have HC1 := hid hc1
  obtain ⟨i0, hi, hz0, hz1, hz2⟩ := info_parts info_ptr
  clear h hc1 hv
  go_enter Tryz.func8, Tryz.ntmps8
  go_wp2_with (first | (go_at_call 31; refine HCO.out.mono ?_; rintro e w1 ⟨rfl, rfl⟩) | fail)
  refine HBV.out.mono ?_
  rintro e w1 ⟨rfl, n1⟩
  have N1 := hid n1
  clear n1
  have hmm := @run_makeMap Tryz.prog
  go_wp2_with fail
  have HN0 : Hid (NewAt w ((w1.alloc (.map #[] 0)).alloc (.cells #[.slice none 0 0, .int .i64 n, .string s, .int .i64 run, .int .i64 0, .map (some w1.heap.size)] 78)) (w1.heap.size + 1) w1.heap.size n s run (.slice none 0 0) []) := hid
    ⟨Blk.newAt (by simp), World.ownsRow_nil _ _ _ _, by simp, by simp, by simp, (MapL.made w1 _ rfl).new ((Mod.refl _ _).alloc _), ⟨by have := N1.out.size; omega, N1.out.size⟩, (N1.out.alloc _).alloc _⟩
  clear hmm
  go_loopw [59] (fun x wr => ∃ (k : Nat) (v : Value) (ps : List Nat), x = .int .i64 k ∧ k ≤ p.length ∧ ps.length = k ∧ NewAt w wr (w1.heap.size + 1) w1.heap.size n s run v ps) (fun x _ => p.length - (intOf x).toNat)
  case atStart => exact ⟨0, _, _, rfl, by omega, rfl, HN0.out⟩
  case round =>
    obtain ⟨k, v, ps, rfl, hk, hps, hA⟩ := hrel
    have HA := hid hA
    by_cases hlt : k < p.length
    · have g0 := New.cellv hA.new' (HC1.out k hlt)
      have gl : b1 < wr.heap.size := World.block_lt_of_cell? _ _ g0
      have hdk := hd k hlt
      unfold dupIn at hdk
      rw [List.getElem?_eq_getElem hlt] at hdk
      simp only at hdk
      have HCT := Tryz.slices_Contains_string b1 o1 k cp p p[k] wr (by omega) (by omega) (fun j hj => by rw [List.getD_eq_getElem?_getD, List.getElem?_eq_getElem hj]; exact New.cellv hA.new' (HC1.out j hj))
      rw [hdk] at HCT
      have HCT := hid HCT
      have r0 : wr.cell? ⟨w1.heap.size + 1, 0, none⟩ = some v := hA.row.cellv 0 rfl
      have rl := hA.row.lt; have rf := hA.row.frz 0
      obtain ⟨t, ht⟩ : ∃ t, t = p[k] := ⟨_, rfl⟩
      rw [← ht] at g0 HCT
      clear hA hdk ht
      go_wp2_with fail
      refine HCT.out.mono ?_
      rintro e w2 ⟨rfl, rfl⟩
      go_wp2_with (at_builtin; refine wpList_append_own_at _ rfl _ _ 76 rfl w.heap.size 80 i0 _ 1 8 Tryz.underlying76 hi hz0 hz1 hz2 rfl (by decide) v k (ps.map ptrV) rfl ?ow ⟨w2.heap.size + 1, 0, none⟩ 1 1 [ptrV w2.heap.size] rfl rfl ?hn ?h1 ?h63 ?hby ?hba ?_)
      case ow =>
        have := HA.out.own
        rw [hps] at this
        exact ownsZ_new this (((Mod.refl _ _).alloc _).alloc _)
      case hn =>
        intro j u hj
        have hadd : ∀ i, (⟨w2.heap.size + 1, 0, none⟩ : Addr).add i = ⟨w2.heap.size + 1, 0 + i, none⟩ := fun i => by unfold Addr.add; split <;> simp_all
        rw [hadd]
        match j, hj with
        | 0, hj => simp at hj; subst hj; exact (Blk.newAt (by simp)).cellv 0 rfl
      case h1 => intro u hu; simp at hu; subst hu; rfl
      case h63 => unfold maxLen; omega
      case hby => omega
      case hba => have := HA.out.new'.size; simp; omega
      intro o4 w4 r4 g4 hne hob
      obtain ⟨sg, sc, rfl⟩ : ∃ sg sc, o4 = .slice sg (k + 1) sc := by
        rcases r4.2 with ⟨e, -⟩ | ⟨g, cap, cur, e, -⟩
        · exact absurd e hne
        · exact ⟨_, _, e⟩
      have hP := HA.out.push hps r4 g4
      have HP := hid hP
      have hq := HA.out.rowAt g4
      have q0 : w4.cell? ⟨w1.heap.size + 1, 0, none⟩ = some v := hq.cellv 0 rfl
      have q1 := hq.lt; have q2 := hq.frz 0
      clear hP r4 g4 hq
      go_wp2
      refine ⟨⟨k + 1, _, ps ++ [w2.heap.size], rfl, by omega, by simp [hps], HP.out⟩, ?_⟩
      simp [intOf]; omega
    · have hke : ps.length = p.length := by omega
      clear hA
      go_wp2_with fail
      obtain ⟨SB, cap, hC, hT⟩ := HA.out.cli (by omega) hn hf hr
      rw [hke] at hC
      exact bodyPost_ret (v := .tuple #[.pointer (some ⟨w1.heap.size + 1, 0, none⟩), .int .i64 0]) (by simp [results, Tryz.results8, go_sem]) rfl ⟨_, SB, cap, _, ps, rfl, hC, HA.out.new', hT⟩
end Go.Proofs.YtnhgichiedninaaGreatDoor
