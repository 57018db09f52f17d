/-
  Several texts in one, in their build order. Blocks known whole ('Blk'), and what a call may have turned ('Mod'). Plain facts on worlds, over no program. No condition. Messages of local discovery told in plain words: hexadecimal digits, lines that end with two bytes, what is written. Plain Lean, no program. No condition. Hexadecimal digits read two at a time: what has been read so far. Plain Lean, no program. No condition. Texts of magnets told in plain words: escaped bytes, and escapes read in either case of digits. Plain Lean, no program. No condition. Whether a text is in a list of texts. Plain Lean. No condition.
-/
import Derived.Test.YtbgmkplpolgebaaGreatDoorRows
import Derived.WalkKit
import Derived.WalkSpells
import Derived.WalkLawsBesides
import Derived.Laws.EntriesVeiled
import Derived.OrdersHeld
import Derived.KernelRfl
import Derived.Lib.SplitLaws
import Derived.Lib.Split
import Derived.Lib.ItoaNum
import Derived.Lib.Bytealg
import Derived.Laws.Strings
import Derived.WideShapes
namespace Go.Proofs.YtbgmkplpolgebaaGreatDoor
set_option linter.unusedSimpArgs false
set_option linter.unusedVariables false
open Go.RowKit

/-- A fact kept from the walk. -/
theorem hid {p : Prop} (h : p) : Hid p := h

/-- The block b holds just the cells cs, of the element type t, and none of them is frozen. -/
def Blk (w : World) (b : Nat) (cs : Array Value) (t : TypeId) : Prop := w.heap[b]? = some (.cells cs t (0, 0))

theorem Blk.cell {w : World} {b : Nat} {cs : Array Value} {t : TypeId} (h : Blk w b cs t) (i : Nat) : w.cell? ⟨b, i, none⟩ = cs[i]? := by
  unfold Blk at h
  simp [World.cell?, h]
theorem Blk.cellv {w : World} {b : Nat} {cs : Array Value} {t : TypeId} (h : Blk w b cs t) (i : Nat) {v : Value} (hv : cs[i]? = some v) : w.cell? ⟨b, i, none⟩ = some v := by
  rw [h.cell, hv]
theorem Blk.frz {w : World} {b : Nat} {cs : Array Value} {t : TypeId} (h : Blk w b cs t) (i : Nat) : w.frozen? ⟨b, i, none⟩ = false := by
  unfold Blk at h
  simp [World.frozen?, h]
theorem Blk.lt {w : World} {b : Nat} {cs : Array Value} {t : TypeId} (h : Blk w b cs t) : b < w.heap.size := by
  unfold Blk at h
  rcases Nat.lt_or_ge b w.heap.size with h' | h'
  · exact h'
  · simp [Array.getElem?_eq_none h'] at h
theorem Blk.one {w : World} {b : Nat} {v : Value} {t : TypeId} (h : Blk w b #[v] t) : w.cell? ⟨b, 0, none⟩ = some v ∧ w.frozen? ⟨b, 0, none⟩ = false ∧ b < w.heap.size := ⟨h.cellv 0 rfl, h.frz 0, h.lt⟩
theorem Blk.of_heap {w w' : World} {b : Nat} {cs : Array Value} {t : TypeId} (h : Blk w b cs t) (e : w'.heap[b]? = w.heap[b]?) : Blk w' b cs t := e.trans h
theorem Blk.alloc {w : World} {b : Nat} {cs : Array Value} {t : TypeId} (h : Blk w b cs t) (o : Obj) : Blk (w.alloc o) b cs t :=
  h.of_heap (Below.heap_alloc w o b h.lt)
theorem Blk.drew {w : World} {b : Nat} {cs : Array Value} {t : TypeId} (h : Blk w b cs t) : Blk w.drew b cs t := h
theorem Blk.other {w : World} {b : Nat} {cs : Array Value} {t : TypeId} {p : Addr} {u : Value} (hp : b ≠ p.block) (h : Blk w b cs t) : Blk (w.setCell p u) b cs t :=
  h.of_heap (Below.heap_setCell w p u b hp)
theorem Blk.set {w : World} {b : Nat} {cs : Array Value} {t : TypeId} (h : Blk w b cs t) (i : Nat) (u : Value) : Blk (w.setCell ⟨b, i, none⟩ u) b (cs.setIfInBounds i u) t := by
  have hlt := h.lt
  unfold Blk at h ⊢
  have h' : w.heap[b] = .cells cs t (0, 0) := by simpa [Array.getElem?_eq_getElem hlt] using h
  show (w.heap.modify b _)[b]? = _
  rw [Array.getElem?_eq_getElem (by simpa using hlt), Array.getElem_modify_self, h']
  rfl
theorem Blk.new (w : World) (cs : Array Value) (t : TypeId) : Blk (w.alloc (.cells cs t)) w.heap.size cs t := by unfold Blk; show (w.heap.push _)[w.heap.size]? = _; simp
theorem Blk.newAt {w : World} {b : Nat} {cs : Array Value} {t : TypeId} (h : b = w.heap.size) : Blk (w.alloc (.cells cs t)) b cs t := by subst h; exact Blk.new w cs t
theorem Blk.row {w : World} {b : Nat} {cs cs' : Array Value} {t : TypeId} (h : Blk w b cs t) (e : cs = cs') : Blk w b cs' t := e ▸ h

/-- The blocks of S may have turned, and there may be new blocks. All else is as it was. -/
structure Mod (S : Nat → Prop) (w w' : World) : Prop where
  os : w'.os = w.os
  tape : w'.tape = w.tape
  output : w'.output = w.output
  size : w.heap.size ≤ w'.heap.size
  block : ∀ k, k < w.heap.size → ¬ S k → w'.heap[k]? = w.heap[k]?

theorem Mod.refl (S : Nat → Prop) (w : World) : Mod S w w := ⟨rfl, rfl, rfl, Nat.le_refl _, fun _ _ _ => rfl⟩
theorem Mod.trans' {S S' : Nat → Prop} {a b c : World} (h : Mod S a b) (k : Mod S' b c) (hs : ∀ i, i < a.heap.size → S' i → S i) : Mod S a c :=
  ⟨k.os.trans h.os, k.tape.trans h.tape, k.output.trans h.output, Nat.le_trans h.size k.size, fun i hi hn => (k.block i (Nat.lt_of_lt_of_le hi h.size) (fun x => hn (hs i hi x))).trans (h.block i hi hn)⟩
theorem Mod.trans {S : Nat → Prop} {a b c : World} (h : Mod S a b) (k : Mod S b c) : Mod S a c := h.trans' k (fun _ _ x => x)
theorem Mod.mono {S S' : Nat → Prop} {a b : World} (h : Mod S a b) (hs : ∀ i, i < a.heap.size → S i → S' i) : Mod S' a b :=
  ⟨h.os, h.tape, h.output, h.size, fun i hi hn => h.block i hi (fun x => hn (hs i hi x))⟩
theorem Mod.drew {S : Nat → Prop} {a b : World} (h : Mod S a b) : Mod S a b.drew := ⟨h.os, h.tape, h.output, h.size, h.block⟩
theorem Mod.alloc {S : Nat → Prop} {a b : World} (h : Mod S a b) (o : Obj) : Mod S a (b.alloc o) :=
  ⟨h.os, h.tape, h.output, by have := h.size; simp; omega, fun i hi hn => (Below.heap_alloc b o i (Nat.lt_of_lt_of_le hi h.size)).trans (h.block i hi hn)⟩
theorem Mod.set {S : Nat → Prop} {a b : World} (h : Mod S a b) (p : Addr) (u : Value) (hp : S p.block ∨ a.heap.size ≤ p.block) : Mod S a (b.setCell p u) :=
  ⟨h.os, h.tape, h.output, by have := h.size; simpa using this, fun i hi hn => (Below.heap_setCell b p u i (fun e => by subst e; rcases hp with hp | hp; exact hn hp; omega)).trans (h.block i hi hn)⟩
theorem Mod.blk {S : Nat → Prop} {w w' : World} (h : Mod S w w') {b : Nat} {cs : Array Value} {t : TypeId} (hb : Blk w b cs t) (hn : ¬ S b) : Blk w' b cs t := hb.of_heap (h.block b hb.lt hn)
theorem Mod.below {S : Nat → Prop} {w w' : World} (h : Mod S w w') (B : Nat) (hB : B ≤ w.heap.size) (hs : ∀ i, i < B → ¬ S i) : Below B w w' :=
  ⟨h.os, h.tape, h.output, h.size, fun k hk => h.block k (by omega) (hs k hk)⟩
theorem Mod.of_below {w w' : World} {B : Nat} (h : Below B w w') : Mod (fun k => B ≤ k) w w' :=
  ⟨h.os, h.tape, h.output, h.size, fun k _ hn => h.block k (by omega)⟩
/-- Nothing that was there has turned. -/
abbrev New (w w' : World) : Prop := Mod (fun _ => False) w w'
theorem New.blk {w w' : World} (h : New w w') {b : Nat} {cs : Array Value} {t : TypeId} (hb : Blk w b cs t) : Blk w' b cs t := Mod.blk h hb (fun x => x)
theorem New.mod {S : Nat → Prop} {w w' : World} (h : New w w') : Mod S w w' := Mod.mono h (fun _ _ x => x.elim)

theorem ret_bool {a b : Bool} (h : a = b) : Ending.returned (.bool a) = .returned (.bool b) := by rw [h]
/-- 'wpAnyH_take', its plain premises shown by themselves: operation i of a drawn region is taken. -/
theorem tk {P : Program} {md : Region.Mode} {ops : Array Oper} {Q : Exit → Act → World → Prop} {S : World → Prop} {fuel : Nat} {listed : Array Bool} {a : Act} {w : World} (i : Nat) {v : Value} {oi : Oper}
    (hy : ∀ w, S w → (execOp a.eval oi).run P w = .ok (.value v) w) (h : wpAnyH P md ops Q S fuel (listed.setIfInBounds i true) (a.put oi.dst v) w)
    (hi : ops[i]? = some oi := by simp only [List.getElem?_toArray, List.getElem?_cons_succ, List.getElem?_cons_zero]; rfl)
    (hs : Region.noSelect ops = true := by kernel_rfl) (hf : Region.free md ops listed i = true := by kernel_rfl) (hr : (Region.ready md ops listed).contains i = true := by kernel_rfl)
    (hQ : ∀ c a w, Q (.panic c) (a.put oi.dst v) w → Q (.panic c) a w := by intro _ _ _ h; exact h) (hw : Region.wanted oi (yielded ops a.tmps) = true := by rfl) (hS : S w := by assumption) : wpAnyH P md ops Q S (fuel + 1) listed a w :=
  wpAnyH_take hi hs hf hr hQ (Or.inl ⟨hw, hy⟩) hS h
/-- .. is passed by. -/
theorem sk {P : Program} {md : Region.Mode} {ops : Array Oper} {Q : Exit → Act → World → Prop} {S : World → Prop} {fuel : Nat} {listed : Array Bool} {a : Act} {w : World} (i : Nat) {oi : Oper}
    (h : wpAnyH P md ops Q S fuel (listed.setIfInBounds i true) (a.put oi.dst undef) w)
    (hi : ops[i]? = some oi := by simp only [List.getElem?_toArray, List.getElem?_cons_succ, List.getElem?_cons_zero]; rfl)
    (hs : Region.noSelect ops = true := by kernel_rfl) (hf : Region.free md ops listed i = true := by kernel_rfl) (hr : (Region.ready md ops listed).contains i = true := by kernel_rfl)
    (hQ : ∀ c a w, Q (.panic c) (a.put oi.dst undef) w → Q (.panic c) a w := by intro _ _ _ h; exact h) (hw : Region.wanted oi (yielded ops a.tmps) = false := by kernel_rfl) (hS : S w := by assumption) : wpAnyH P md ops Q S (fuel + 1) listed a w :=
  wpAnyH_take hi hs hf hr hQ (Or.inr ⟨hw, rfl⟩) hS h
end Go.Proofs.YtbgmkplpolgebaaGreatDoor

namespace Go.Proofs.YtbgmkplpolgebaaGreatDoor
set_option linter.unusedSimpArgs false
set_option linter.unusedVariables false

/-! ### digits -/
def hexLows : List UInt8 := [48, 49, 50, 51, 52, 53, 54, 55, 56, 57, 97, 98, 99, 100, 101, 102]
def hexLow (n : Nat) : UInt8 := hexLows.getD n 0
def hexOf (l : List UInt8) : List UInt8 := l.flatMap fun b => [hexLow (b.toNat / 16), hexLow (b.toNat % 16)]
def nib (c : UInt8) : Option Nat := if 48 ≤ c.toNat ∧ c.toNat ≤ 57 then some (c.toNat - 48) else if 97 ≤ c.toNat ∧ c.toNat ≤ 102 then some (c.toNat - 87) else none
def unhex : List UInt8 → Option (List UInt8)
  | [] => some []
  | [_] => none
  | a :: b :: r => match nib a, nib b, unhex r with
    | some x, some y, some t => some (UInt8.ofNat (16 * x + y) :: t)
    | _, _, _ => none
theorem nib_low : ∀ n, n < 16 → nib (hexLow n) = some n := by decide +kernel
theorem low_nib {c : UInt8} {n : Nat} (h : nib c = some n) : hexLow n = c ∧ n < 16 := by
  have key : ∀ k : Nat, k < 256 → ∀ n, nib (UInt8.ofNat k) = some n → hexLow n = UInt8.ofNat k ∧ n < 16 := by
    intro k hk n hn
    have h2 : ∀ k : Nat, k < 256 → (match nib (UInt8.ofNat k) with | some n => decide (hexLow n = UInt8.ofNat k) && decide (n < 16) | none => true) = true := by decide +kernel
    have := h2 k hk
    rw [hn] at this
    simpa using this
  have := key c.toNat c.toNat_lt n (by rw [UInt8.ofNat_toNat]; exact h)
  rwa [UInt8.ofNat_toNat] at this
theorem unhex_hex : ∀ l : List UInt8, unhex (hexOf l) = some l
  | [] => rfl
  | b :: l => by
    have hb := b.toNat_lt
    have e : hexOf (b :: l) = hexLow (b.toNat / 16) :: hexLow (b.toNat % 16) :: hexOf l := rfl
    rw [e, unhex, nib_low _ (by omega), nib_low _ (by omega), unhex_hex l]
    simp only [Option.some.injEq, List.cons.injEq, and_true]
    rw [show 16 * (b.toNat / 16) + b.toNat % 16 = b.toNat by omega, UInt8.ofNat_toNat]
theorem hex_unhex : ∀ (s : List UInt8) {l : List UInt8}, unhex s = some l → s = hexOf l
  | [], l, h => by
    simp only [unhex, Option.some.injEq] at h
    rw [← h]
    rfl
  | [_], l, h => by simp [unhex] at h
  | a :: b :: r, l, h => by
    rw [unhex] at h
    cases ha : nib a with
    | none => rw [ha] at h; simp at h
    | some x =>
      cases hb : nib b with
      | none => rw [ha, hb] at h; simp at h
      | some y =>
        cases hr : unhex r with
        | none => rw [ha, hb, hr] at h; simp at h
        | some t =>
          rw [ha, hb, hr] at h
          simp only [Option.some.injEq] at h
          obtain ⟨e1, l1⟩ := low_nib ha
          obtain ⟨e2, l2⟩ := low_nib hb
          have := hex_unhex r hr
          rw [← h]
          show _ = hexLow ((UInt8.ofNat (16 * x + y)).toNat / 16) :: hexLow ((UInt8.ofNat (16 * x + y)).toNat % 16) :: hexOf t
          rw [UInt8.toNat_ofNat', Nat.mod_eq_of_lt (by omega), show (16 * x + y) / 16 = x by omega, show (16 * x + y) % 16 = y by omega, e1, e2, this]
theorem hex_len : ∀ l : List UInt8, (hexOf l).length = 2 * l.length
  | [] => rfl
  | b :: l => by
    have := hex_len l
    have e : hexOf (b :: l) = hexLow (b.toNat / 16) :: hexLow (b.toNat % 16) :: hexOf l := rfl
    rw [e, List.length_cons, List.length_cons, List.length_cons, this]
    omega
theorem hex_bytes {l : List UInt8} {c : UInt8} (h : c ∈ hexOf l) : 48 ≤ c.toNat ∧ c.toNat ≤ 102 := by
  unfold hexOf at h
  obtain ⟨b, hb, hc⟩ := List.mem_flatMap.1 h
  have hl := b.toNat_lt
  have key : ∀ n, n < 16 → 48 ≤ (hexLow n).toNat ∧ (hexLow n).toNat ≤ 102 := by decide +kernel
  simp only [List.mem_cons, List.mem_nil_iff, or_false] at hc
  rcases hc with rfl | rfl
  · exact key _ (by omega)
  · exact key _ (by omega)
/-! ### lines -/
/-! ### messages -/
end Go.Proofs.YtbgmkplpolgebaaGreatDoor

namespace Go.Proofs.YtbgmkplpolgebaaGreatDoor
set_option linter.unusedSimpArgs false
set_option linter.unusedVariables false

def nibD (c : UInt8) : Nat := (nib c).getD 0
theorem nib_lt {c : UInt8} {n : Nat} (h : nib c = some n) : n < 16 := (low_nib h).2
theorem nibD_lt (c : UInt8) : nibD c < 16 := by
  unfold nibD
  cases h : nib c with
  | none => decide
  | some n => exact nib_lt h
def half : List UInt8 → List UInt8
  | [] => []
  | [a] => [UInt8.ofNat (16 * nibD a)]
  | a :: b :: r => UInt8.ofNat (16 * nibD a + nibD b) :: half r
theorem half_one : ∀ (p : List UInt8) (a : UInt8), p.length % 2 = 0 → half (p ++ [a]) = half p ++ [UInt8.ofNat (16 * nibD a)]
  | [], a, _ => rfl
  | [x], a, h => by simp at h
  | x :: y :: r, a, h => by
    have := half_one r a (by simp only [List.length_cons] at h; omega)
    simp only [List.cons_append, half, this]
theorem half_two : ∀ (p : List UInt8) (a b : UInt8), p.length % 2 = 0 → half (p ++ [a, b]) = half p ++ [UInt8.ofNat (16 * nibD a + nibD b)]
  | [], a, b, _ => rfl
  | [x], a, b, h => by simp at h
  | x :: y :: r, a, b, h => by
    have := half_two r a b (by simp only [List.length_cons] at h; omega)
    simp only [List.cons_append, half, this]
theorem half_len : ∀ l : List UInt8, (half l).length = (l.length + 1) / 2
  | [] => rfl
  | [a] => by simp [half]
  | a :: b :: r => by
    have := half_len r
    simp only [half, List.length_cons, this]
    omega
theorem unhex_half : ∀ l : List UInt8, l.length % 2 = 0 → (∀ c ∈ l, (nib c).isSome = true) → unhex l = some (half l)
  | [], _, _ => rfl
  | [a], h, _ => by simp at h
  | a :: b :: r, h, hn => by
    have := unhex_half r (by simp only [List.length_cons] at h; omega) (fun c hc => hn c (by simp [hc]))
    have ha := hn a (by simp)
    have hb := hn b (by simp)
    cases ea : nib a with
    | none => rw [ea] at ha; cases ha
    | some x =>
      cases eb : nib b with
      | none => rw [eb] at hb; cases hb
      | some y =>
        rw [unhex, ea, eb, this]
        simp only [half, nibD, ea, eb, Option.getD_some]
theorem unhex_bad : ∀ (l : List UInt8) (c : UInt8), c ∈ l → nib c = none → unhex l = none
  | [], c, h, _ => by simp at h
  | [a], c, h, _ => rfl
  | a :: b :: r, c, h, hn => by
    rw [unhex]
    simp only [List.mem_cons] at h
    rcases h with rfl | rfl | h
    · rw [hn]
    · rw [hn]; cases nib a <;> rfl
    · rw [unhex_bad r c h hn]
      cases nib a <;> cases nib b <;> rfl
theorem unhex_odd : ∀ l : List UInt8, l.length % 2 = 1 → unhex l = none
  | [], h => by simp at h
  | [a], _ => rfl
  | a :: b :: r, h => by
    rw [unhex, unhex_odd r (by simp only [List.length_cons] at h; omega)]
    cases nib a <;> cases nib b <;> rfl
def nibI (c : UInt8) : Int := match nib c with
  | some n => (n : Int)
  | none => -1
theorem nibI_some {c : UInt8} {n : Nat} (h : nib c = some n) : nibI c = (n : Int) := by unfold nibI; rw [h]
theorem nibI_none {c : UInt8} (h : nib c = none) : nibI c = -1 := by unfold nibI; rw [h]
theorem index_nib (c : UInt8) : Lib.indexByte hexLows c = nibI c := by
  have key : ∀ k : Nat, k < 256 → Lib.indexByte hexLows (UInt8.ofNat k) = nibI (UInt8.ofNat k) := by decide +kernel
  have := key c.toNat c.toNat_lt
  rwa [UInt8.ofNat_toNat] at this
def unhexE (l : List UInt8) : Int := if (unhex l).isSome then 0 else 2
def unhexB (l : List UInt8) : List UInt8 := (unhex l).getD []
theorem unhex_no {l : List UInt8} (h : unhex l = none) : unhexB l = [] ∧ unhexE l = 2 := by
  unfold unhexB unhexE
  rw [h]
  exact ⟨rfl, rfl⟩
theorem unhex_yes {l t : List UInt8} (h : unhex l = some t) : unhexB l = t ∧ unhexE l = 0 := by
  unfold unhexB unhexE
  rw [h]
  exact ⟨rfl, rfl⟩
theorem half_next0 {l : List UInt8} {k : Nat} (h : k < l.length) (he : k % 2 = 0) : half (l.take (k + 1)) = half (l.take k) ++ [UInt8.ofNat (16 * nibD l[k])] := by
  rw [List.take_add_one, List.getElem?_eq_getElem h]
  exact half_one _ _ (by rw [List.length_take]; omega)
/-- At an odd place: the byte written last, and the same with the lower half. -/
theorem half_next1 {l : List UInt8} {k : Nat} (h : k < l.length) (he : k % 2 = 1) : ∃ (p : List UInt8) (a : Nat), a < 16 ∧ p.length = k / 2 ∧ half (l.take k) = p ++ [UInt8.ofNat (16 * a)] ∧ half (l.take (k + 1)) = p ++ [UInt8.ofNat (16 * a + nibD l[k])] := by
  obtain ⟨j, rfl⟩ : ∃ j, k = j + 1 := ⟨k - 1, by omega⟩
  have e1 : l.take (j + 1) = l.take j ++ [l[j]] := by
    rw [List.take_add_one, List.getElem?_eq_getElem (by omega)]
    rfl
  have e2 : l.take (j + 1 + 1) = l.take j ++ [l[j], l[j + 1]] := by
    rw [List.take_add_one, List.getElem?_eq_getElem h, e1, List.append_assoc]
    rfl
  have hj : (l.take j).length % 2 = 0 := by rw [List.length_take]; omega
  refine ⟨half (l.take j), nibD l[j], nibD_lt _, by rw [half_len, List.length_take]; omega, by rw [e1]; exact half_one _ _ hj, by rw [e2]; exact half_two _ _ _ hj⟩
theorem or_low {a b : Nat} (ha : a < 16) (hb : b < 16) : bits .or .u8 ((UInt8.ofNat (16 * a)).toNat : Int) (b : Int) = ((UInt8.ofNat (16 * a + b)).toNat : Int) := by
  have key : ∀ a : Nat, a < 16 → ∀ b : Nat, b < 16 → bits .or .u8 ((UInt8.ofNat (16 * a)).toNat : Int) (b : Int) = ((UInt8.ofNat (16 * a + b)).toNat : Int) := by decide +kernel
  exact key a ha b hb
theorem mk_high {a : Nat} (ha : a < 16) : ((UInt8.ofNat (16 * a)).toNat : Int) = 16 * (a : Int) := by
  rw [UInt8.toNat_ofNat', Nat.mod_eq_of_lt (by omega)]
  omega
end Go.Proofs.YtbgmkplpolgebaaGreatDoor

namespace Go.Proofs.YtbgmkplpolgebaaGreatDoor
set_option linter.unusedSimpArgs false
set_option linter.unusedVariables false

/-- The bytes that stand as they are. -/
def plainE (b : UInt8) : Bool := (decide (97 ≤ b.toNat) && decide (b.toNat ≤ 122)) || (decide (65 ≤ b.toNat) && decide (b.toNat ≤ 90)) || (decide (48 ≤ b.toNat) && decide (b.toNat ≤ 57)) || decide (b = 45) || decide (b = 46) || decide (b = 95) || decide (b = 126)
def upDs : List UInt8 := [48, 49, 50, 51, 52, 53, 54, 55, 56, 57, 65, 66, 67, 68, 69, 70]
def upD (n : Nat) : UInt8 := upDs.getD n 0
def eB (b : UInt8) : List UInt8 := if plainE b then [b] else [37, upD (b.toNat / 16), upD (b.toNat % 16)]
/-- A text, escaped. -/
def eOf (l : List UInt8) : List UInt8 := l.flatMap eB
theorem eB_len (b : UInt8) : (eB b).length ≤ 3 ∧ 1 ≤ (eB b).length := by
  unfold eB
  split <;> simp
theorem eOf_len : ∀ l : List UInt8, (eOf l).length ≤ 3 * l.length
  | [] => by simp [eOf]
  | b :: l => by
    have h1 := eOf_len l
    have h2 := eB_len b
    unfold eOf at *
    rw [List.flatMap_cons, List.length_append, List.length_cons]
    omega
theorem eOf_next {l : List UInt8} {k : Nat} (h : k < l.length) : eOf (l.take (k + 1)) = eOf (l.take k) ++ eB l[k] := by
  unfold eOf
  rw [List.take_add_one, List.getElem?_eq_getElem h, List.flatMap_append]
  simp
/-- A great letter of the digits, made small. -/
def lowC (c : UInt8) : UInt8 := if 65 ≤ c.toNat ∧ c.toNat ≤ 70 then c + 32 else c
def nibC (c : UInt8) : Option Nat := nib (lowC c)
/-- Escapes read in either case; all other bytes stand as they are. -/
def loose : List UInt8 → Option (List UInt8)
  | [] => some []
  | [c] => if c = 37 then none else some [c]
  | [c, a] => if c = 37 then none else (loose [a]).map (c :: ·)
  | c :: a :: b :: t => if c = 37 then (match nibC a, nibC b with | some x, some y => (loose t).map (UInt8.ofNat (16 * x + y) :: ·) | _, _ => none) else (loose (a :: b :: t)).map (c :: ·)
theorem loose_nil : loose [] = some [] := by rw [loose]
theorem loose_plain {c : UInt8} (h : c ≠ 37) : ∀ (r : List UInt8), loose (c :: r) = (loose r).map (c :: ·)
  | [] => by simp [loose, h]
  | [a] => by simp [loose, h]
  | a :: b :: t => by simp [loose, h]
theorem loose_esc (a b : UInt8) (t : List UInt8) : loose (37 :: a :: b :: t) = (match nibC a, nibC b with | some x, some y => (loose t).map (UInt8.ofNat (16 * x + y) :: ·) | _, _ => none) := by
  simp [loose]
theorem loose_cut : ∀ (r : List UInt8), r.length < 2 → loose (37 :: r) = none
  | [], _ => by simp [loose]
  | [a], _ => by simp [loose]
  | a :: b :: t, h => by simp at h; omega
theorem upD_nib : ∀ n, n < 16 → nibC (upD n) = some n := by decide +kernel
theorem plain_not {b : UInt8} (h : plainE b = true) : b ≠ 37 := by
  intro e
  subst e
  revert h
  decide
theorem loose_len : ∀ (n : Nat) (l : List UInt8), l.length ≤ n → ∀ t, loose l = some t → t.length ≤ l.length
  | _, [], _, t, h => by rw [loose_nil] at h; cases h; simp
  | 0, _ :: _, hl, _, _ => by simp at hl
  | n + 1, c :: r, hl, t, h => by
    simp only [List.length_cons] at hl ⊢
    by_cases hc : c = 37
    · subst hc
      match r, h, hl with
      | [], h, hl => rw [loose_cut _ (by simp)] at h; cases h
      | [a], h, hl => rw [loose_cut _ (by simp)] at h; cases h
      | a :: b :: u, h, hl =>
        rw [loose_esc] at h
        cases ha : nibC a with
        | none => rw [ha] at h; cases h
        | some x =>
          cases hb : nibC b with
          | none => rw [ha, hb] at h; cases h
          | some y =>
            rw [ha, hb] at h
            cases hu : loose u with
            | none => rw [hu] at h; cases h
            | some v =>
              rw [hu] at h
              cases h
              have := loose_len n u (by simp only [List.length_cons] at hl; omega) v hu
              simp only [List.length_cons] at *
              omega
    · rw [loose_plain hc] at h
      cases hu : loose r with
      | none => rw [hu] at h; cases h
      | some v =>
        rw [hu] at h
        cases h
        have := loose_len n r (by omega) v hu
        simp only [List.length_cons]
        omega
theorem loose_eOf : ∀ l : List UInt8, loose (eOf l) = some l
  | [] => loose_nil
  | b :: l => by
    have ih := loose_eOf l
    have e : eOf (b :: l) = eB b ++ eOf l := rfl
    rw [e]
    unfold eB
    split
    · next h =>
      rw [List.singleton_append, loose_plain (plain_not h), ih]
      rfl
    · have hb := b.toNat_lt
      show loose (37 :: upD (b.toNat / 16) :: upD (b.toNat % 16) :: eOf l) = _
      rw [loose_esc, upD_nib _ (by omega), upD_nib _ (by omega), ih]
      simp only [Option.map_some]
      rw [show 16 * (b.toNat / 16) + b.toNat % 16 = b.toNat by omega, UInt8.ofNat_toNat]
/-- Hexadecimal digits in either case. -/
def hexC (s : List UInt8) : Option (List UInt8) := unhex (s.map lowC)
theorem hexC_two (a b : UInt8) : hexC [a, b] = (match nibC a, nibC b with | some x, some y => some [UInt8.ofNat (16 * x + y)] | _, _ => none) := by
  unfold hexC nibC
  show unhex [lowC a, lowC b] = _
  rw [unhex]
  cases nib (lowC a) <;> cases nib (lowC b) <;> rfl
theorem loose_hex (a b : UInt8) (t : List UInt8) : loose (37 :: a :: b :: t) = (match hexC [a, b] with | some x => (loose t).map (x ++ ·) | none => none) := by
  rw [loose_esc, hexC_two]
  cases nibC a <;> cases nibC b <;> rfl
/-- A text read from the left: what has been read, and what is left to be read. -/
theorem loose_step {acc l : List UInt8} {X : Option (List UInt8)} {c : UInt8} (h : (loose (c :: l)).map (acc ++ ·) = X) (hc : c ≠ 37) : (loose l).map ((acc ++ [c]) ++ ·) = X := by
  rw [← h, loose_plain hc]
  cases loose l with
  | none => rfl
  | some u => simp
theorem loose_step3 {acc t : List UInt8} {X : Option (List UInt8)} {a b : UInt8} {x : List UInt8} (h : (loose (37 :: a :: b :: t)).map (acc ++ ·) = X) (hx : hexC [a, b] = some x) : (loose t).map ((acc ++ x) ++ ·) = X := by
  rw [← h, loose_hex, hx]
  cases loose t with
  | none => rfl
  | some u => simp
theorem loose_bad {acc t : List UInt8} {X : Option (List UInt8)} {a b : UInt8} (h : (loose (37 :: a :: b :: t)).map (acc ++ ·) = X) (hx : hexC [a, b] = none) : X = none := by
  rw [← h, loose_hex, hx]
  rfl
theorem loose_short {acc r : List UInt8} {X : Option (List UInt8)} (h : (loose (37 :: r)).map (acc ++ ·) = X) (hr : r.length < 2) : X = none := by
  rw [← h, loose_cut _ hr]
  rfl
end Go.Proofs.YtbgmkplpolgebaaGreatDoor

namespace Go.Proofs.YtbgmkplpolgebaaGreatDoor
theorem bytes_ext {a b : ByteArray} (h : a.data.toList = b.data.toList) : a = b := by
  obtain ⟨⟨a⟩⟩ := a
  obtain ⟨⟨b⟩⟩ := b
  simp at h
  rw [h]
/-- As the walk compares a text with a written one. -/
theorem lit_eq (s : ByteArray) (l : List UInt8) : (s.toList == l) = decide (s = ⟨l.toArray⟩) := by
  rw [ByteArray.toList_eq, Bool.eq_iff_iff]
  simp only [beq_iff_eq, decide_eq_true_eq]
  constructor
  · intro h
    exact bytes_ext (by rw [h])
  · rintro rfl
    rfl
theorem two_eq (s t : ByteArray) : (s.toList == t.toList) = decide (s = t) := by
  rw [lit_eq, ByteArray.toList_eq]
end Go.Proofs.YtbgmkplpolgebaaGreatDoor
