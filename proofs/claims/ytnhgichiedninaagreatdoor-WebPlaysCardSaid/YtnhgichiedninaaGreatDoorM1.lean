/-
  Several texts in one, in their build order. Blocks known whole ('Blk'), and what a call may have turned ('Mod'). Plain facts on worlds, over no program. No condition. Fields of bits told in plain words: which bit stands where in a row of bytes, a bit that is set, a field's shape. Plain Lean, no program. No condition. A client of web seeds told in plain words: its seeds, what is wanted, what is under way, the runs that may be got, and the one that is got next. Plain Lean, no program. No condition.
-/
import Derived.Test.YtnhgichiedninaaGreatDoorRows
import Derived.WalkKit
import Derived.WalkSpells
import Derived.WalkLawsBesides
import Derived.Laws.EntriesVeiled
namespace Go.Proofs.YtnhgichiedninaaGreatDoor
set_option linter.unusedSimpArgs false
set_option linter.unusedVariables false
open Go.RowKit

/-- A fact kept from the walk. -/
theorem hid {p : Prop} (h : p) : Hid p := h

/-- The block b holds just the cells cs, of the element type t, and none of them is frozen. -/
def Blk (w : World) (b : Nat) (cs : Array Value) (t : TypeId) : Prop := w.heap[b]? = some (.cells cs t (0, 0))

theorem Blk.cell {w : World} {b : Nat} {cs : Array Value} {t : TypeId} (h : Blk w b cs t) (i : Nat) : w.cell? ⟨b, i, none⟩ = cs[i]? := by
  unfold Blk at h
  simp [World.cell?, h]
theorem Blk.cellv {w : World} {b : Nat} {cs : Array Value} {t : TypeId} (h : Blk w b cs t) (i : Nat) {v : Value} (hv : cs[i]? = some v) : w.cell? ⟨b, i, none⟩ = some v := by
  rw [h.cell, hv]
theorem Blk.frz {w : World} {b : Nat} {cs : Array Value} {t : TypeId} (h : Blk w b cs t) (i : Nat) : w.frozen? ⟨b, i, none⟩ = false := by
  unfold Blk at h
  simp [World.frozen?, h]
theorem Blk.lt {w : World} {b : Nat} {cs : Array Value} {t : TypeId} (h : Blk w b cs t) : b < w.heap.size := by
  unfold Blk at h
  rcases Nat.lt_or_ge b w.heap.size with h' | h'
  · exact h'
  · simp [Array.getElem?_eq_none h'] at h
theorem Blk.one {w : World} {b : Nat} {v : Value} {t : TypeId} (h : Blk w b #[v] t) : w.cell? ⟨b, 0, none⟩ = some v ∧ w.frozen? ⟨b, 0, none⟩ = false ∧ b < w.heap.size := ⟨h.cellv 0 rfl, h.frz 0, h.lt⟩
theorem Blk.of_heap {w w' : World} {b : Nat} {cs : Array Value} {t : TypeId} (h : Blk w b cs t) (e : w'.heap[b]? = w.heap[b]?) : Blk w' b cs t := e.trans h
theorem Blk.alloc {w : World} {b : Nat} {cs : Array Value} {t : TypeId} (h : Blk w b cs t) (o : Obj) : Blk (w.alloc o) b cs t :=
  h.of_heap (Below.heap_alloc w o b h.lt)
theorem Blk.drew {w : World} {b : Nat} {cs : Array Value} {t : TypeId} (h : Blk w b cs t) : Blk w.drew b cs t := h
theorem Blk.other {w : World} {b : Nat} {cs : Array Value} {t : TypeId} {p : Addr} {u : Value} (hp : b ≠ p.block) (h : Blk w b cs t) : Blk (w.setCell p u) b cs t :=
  h.of_heap (Below.heap_setCell w p u b hp)
theorem Blk.set {w : World} {b : Nat} {cs : Array Value} {t : TypeId} (h : Blk w b cs t) (i : Nat) (u : Value) : Blk (w.setCell ⟨b, i, none⟩ u) b (cs.setIfInBounds i u) t := by
  have hlt := h.lt
  unfold Blk at h ⊢
  have h' : w.heap[b] = .cells cs t (0, 0) := by simpa [Array.getElem?_eq_getElem hlt] using h
  show (w.heap.modify b _)[b]? = _
  rw [Array.getElem?_eq_getElem (by simpa using hlt), Array.getElem_modify_self, h']
  rfl
theorem Blk.new (w : World) (cs : Array Value) (t : TypeId) : Blk (w.alloc (.cells cs t)) w.heap.size cs t := by unfold Blk; show (w.heap.push _)[w.heap.size]? = _; simp
theorem Blk.newAt {w : World} {b : Nat} {cs : Array Value} {t : TypeId} (h : b = w.heap.size) : Blk (w.alloc (.cells cs t)) b cs t := by subst h; exact Blk.new w cs t
theorem Blk.row {w : World} {b : Nat} {cs cs' : Array Value} {t : TypeId} (h : Blk w b cs t) (e : cs = cs') : Blk w b cs' t := e ▸ h

/-- The blocks of S may have turned, and there may be new blocks. All else is as it was. -/
structure Mod (S : Nat → Prop) (w w' : World) : Prop where
  os : w'.os = w.os
  tape : w'.tape = w.tape
  output : w'.output = w.output
  size : w.heap.size ≤ w'.heap.size
  block : ∀ k, k < w.heap.size → ¬ S k → w'.heap[k]? = w.heap[k]?

theorem Mod.refl (S : Nat → Prop) (w : World) : Mod S w w := ⟨rfl, rfl, rfl, Nat.le_refl _, fun _ _ _ => rfl⟩
theorem Mod.trans' {S S' : Nat → Prop} {a b c : World} (h : Mod S a b) (k : Mod S' b c) (hs : ∀ i, i < a.heap.size → S' i → S i) : Mod S a c :=
  ⟨k.os.trans h.os, k.tape.trans h.tape, k.output.trans h.output, Nat.le_trans h.size k.size, fun i hi hn => (k.block i (Nat.lt_of_lt_of_le hi h.size) (fun x => hn (hs i hi x))).trans (h.block i hi hn)⟩
theorem Mod.trans {S : Nat → Prop} {a b c : World} (h : Mod S a b) (k : Mod S b c) : Mod S a c := h.trans' k (fun _ _ x => x)
theorem Mod.mono {S S' : Nat → Prop} {a b : World} (h : Mod S a b) (hs : ∀ i, i < a.heap.size → S i → S' i) : Mod S' a b :=
  ⟨h.os, h.tape, h.output, h.size, fun i hi hn => h.block i hi (fun x => hn (hs i hi x))⟩
theorem Mod.drew {S : Nat → Prop} {a b : World} (h : Mod S a b) : Mod S a b.drew := ⟨h.os, h.tape, h.output, h.size, h.block⟩
theorem Mod.alloc {S : Nat → Prop} {a b : World} (h : Mod S a b) (o : Obj) : Mod S a (b.alloc o) :=
  ⟨h.os, h.tape, h.output, by have := h.size; simp; omega, fun i hi hn => (Below.heap_alloc b o i (Nat.lt_of_lt_of_le hi h.size)).trans (h.block i hi hn)⟩
theorem Mod.set {S : Nat → Prop} {a b : World} (h : Mod S a b) (p : Addr) (u : Value) (hp : S p.block ∨ a.heap.size ≤ p.block) : Mod S a (b.setCell p u) :=
  ⟨h.os, h.tape, h.output, by have := h.size; simpa using this, fun i hi hn => (Below.heap_setCell b p u i (fun e => by subst e; rcases hp with hp | hp; exact hn hp; omega)).trans (h.block i hi hn)⟩
theorem Mod.blk {S : Nat → Prop} {w w' : World} (h : Mod S w w') {b : Nat} {cs : Array Value} {t : TypeId} (hb : Blk w b cs t) (hn : ¬ S b) : Blk w' b cs t := hb.of_heap (h.block b hb.lt hn)
theorem Mod.below {S : Nat → Prop} {w w' : World} (h : Mod S w w') (B : Nat) (hB : B ≤ w.heap.size) (hs : ∀ i, i < B → ¬ S i) : Below B w w' :=
  ⟨h.os, h.tape, h.output, h.size, fun k hk => h.block k (by omega) (hs k hk)⟩
theorem Mod.of_below {w w' : World} {B : Nat} (h : Below B w w') : Mod (fun k => B ≤ k) w w' :=
  ⟨h.os, h.tape, h.output, h.size, fun k _ hn => h.block k (by omega)⟩
/-- Nothing that was there has turned. -/
abbrev New (w w' : World) : Prop := Mod (fun _ => False) w w'
theorem New.blk {w w' : World} (h : New w w') {b : Nat} {cs : Array Value} {t : TypeId} (hb : Blk w b cs t) : Blk w' b cs t := Mod.blk h hb (fun x => x)
theorem New.mod {S : Nat → Prop} {w w' : World} (h : New w w') : Mod S w w' := Mod.mono h (fun _ _ x => x.elim)

theorem ret_int {k : IntKind} {a b : Int} (h : a = b) : Ending.returned (.int k a) = .returned (.int k b) := by rw [h]
theorem ret_bool {a b : Bool} (h : a = b) : Ending.returned (.bool a) = .returned (.bool b) := by rw [h]
end Go.Proofs.YtnhgichiedninaaGreatDoor

namespace Go.Proofs.YtnhgichiedninaaGreatDoor
set_option linter.unusedSimpArgs false
set_option linter.unusedVariables false

/-- The bit j of a byte, from the greatest on. -/
def bitB (b : UInt8) (j : Nat) : Bool := decide (b.toNat / 2 ^ (7 - j) % 2 = 1)
def maskN (j : Nat) : Nat := 128 / 2 ^ j
def setB (b : UInt8) (j : Nat) (v : Bool) : UInt8 := if v then b ||| UInt8.ofNat (maskN j) else b &&& ~~~ (UInt8.ofNat (maskN j))
theorem set_bit (b : UInt8) {i j : Nat} (v : Bool) (hi : i < 8) (hj : j < 8) : bitB (setB b i v) j = if j = i then v else bitB b j := by
  have key : ∀ n : Nat, n < 256 → ∀ i, i < 8 → ∀ j, j < 8 → (bitB (setB (UInt8.ofNat n) i true) j = if j = i then true else bitB (UInt8.ofNat n) j) ∧ (bitB (setB (UInt8.ofNat n) i false) j = if j = i then false else bitB (UInt8.ofNat n) j) := by decide +kernel
  have h := key b.toNat b.toNat_lt i hi j hj
  rw [UInt8.ofNat_toNat] at h
  cases v
  · exact h.2
  · exact h.1
theorem byte_ext {a b : UInt8} (h : ∀ j, j < 8 → bitB a j = bitB b j) : a = b := by
  have key : ∀ n : Nat, n < 256 → n = (if bitB (UInt8.ofNat n) 0 then 128 else 0) + (if bitB (UInt8.ofNat n) 1 then 64 else 0) + (if bitB (UInt8.ofNat n) 2 then 32 else 0) + (if bitB (UInt8.ofNat n) 3 then 16 else 0) + (if bitB (UInt8.ofNat n) 4 then 8 else 0) + (if bitB (UInt8.ofNat n) 5 then 4 else 0) + (if bitB (UInt8.ofNat n) 6 then 2 else 0) + (if bitB (UInt8.ofNat n) 7 then 1 else 0) := by decide +kernel
  have ha := key a.toNat a.toNat_lt
  have hb := key b.toNat b.toNat_lt
  rw [UInt8.ofNat_toNat] at ha hb
  apply UInt8.toNat_inj.1
  rw [ha, hb, h 0 (by omega), h 1 (by omega), h 2 (by omega), h 3 (by omega), h 4 (by omega), h 5 (by omega), h 6 (by omega), h 7 (by omega)]
theorem bit_zero (j : Nat) : bitB 0 j = false := by
  unfold bitB
  rw [decide_eq_false_iff_not]
  show ¬ 0 / 2 ^ (7 - j) % 2 = 1
  rw [Nat.zero_div]
  omega
/-- The bit i of a row of bytes. -/
def bitL (s : List UInt8) (i : Nat) : Bool := bitB (s.getD (i / 8) 0) (i % 8)
def setL (s : List UInt8) (i : Nat) (v : Bool) : List UInt8 := s.set (i / 8) (setB (s.getD (i / 8) 0) (i % 8) v)
theorem setL_len (s : List UInt8) (i : Nat) (v : Bool) : (setL s i v).length = s.length := by unfold setL; simp
theorem bitL_set {s : List UInt8} {i : Nat} (v : Bool) (h : i / 8 < s.length) (j : Nat) : bitL (setL s i v) j = if j = i then v else bitL s j := by
  unfold bitL setL
  rw [List.getD_eq_getElem?_getD, List.getElem?_set]
  by_cases e : i / 8 = j / 8
  · rw [if_pos e, if_pos (by omega)]
    simp only [Option.getD_some]
    rw [set_bit _ _ (by omega) (by omega), e]
    by_cases e2 : j = i
    · subst e2; rw [if_pos rfl, if_pos rfl]
    · rw [if_neg (by omega), if_neg e2]
  · rw [if_neg e, if_neg (by intro q; subst q; exact e rfl), ← List.getD_eq_getElem?_getD]
theorem rows_ext : ∀ {s t : List UInt8}, s.length = t.length → (∀ i, i < 8 * s.length → bitL s i = bitL t i) → s = t := by
  intro s t hl h
  apply List.ext_getElem hl
  intro k h1 h2
  apply byte_ext
  intro j hj
  have := h (8 * k + j) (by omega)
  unfold bitL at this
  rw [show (8 * k + j) / 8 = k by omega, show (8 * k + j) % 8 = j by omega, List.getD_eq_getElem?_getD, List.getD_eq_getElem?_getD, List.getElem?_eq_getElem h1, List.getElem?_eq_getElem h2] at this
  exact this
theorem bitL_zero (k i : Nat) : bitL (List.replicate k 0) i = false := by
  unfold bitL
  rw [List.getD_eq_getElem?_getD, List.getElem?_replicate]
  split <;> exact bit_zero _
/-- A row of bytes that is a field of n bits. -/
structure FieldOf (n : Nat) (s : List UInt8) : Prop where
  len : s.length = (n + 7) / 8
  rest : ∀ i, n ≤ i → bitL s i = false
theorem bitL_out {s : List UInt8} {i : Nat} (h : 8 * s.length ≤ i) : bitL s i = false := by
  unfold bitL
  rw [List.getD_eq_getElem?_getD, List.getElem?_eq_none (by omega)]
  exact bit_zero _
theorem FieldOf.set {n : Nat} {s : List UInt8} (h : FieldOf n s) {i : Nat} (hi : i < n) (v : Bool) : FieldOf n (setL s i v) := by
  have hl := h.len
  refine ⟨by rw [setL_len]; exact hl, fun j hj => ?_⟩
  rw [bitL_set v (by omega), if_neg (by omega)]
  exact h.rest j hj
theorem FieldOf.bit_set {n : Nat} {s : List UInt8} (h : FieldOf n s) {i : Nat} (hi : i < n) (v : Bool) (j : Nat) : bitL (setL s i v) j = if j = i then v else bitL s j :=
  bitL_set v (by have := h.len; omega) j
theorem FieldOf.zero (n : Nat) : FieldOf n (List.replicate ((n + 7) / 8) 0) := ⟨by simp, fun _ _ => bitL_zero _ _⟩
theorem FieldOf.ext {n : Nat} {s t : List UInt8} (h : FieldOf n s) (k : FieldOf n t) (hb : ∀ i, i < n → bitL s i = bitL t i) : s = t := by
  refine rows_ext (h.len.trans k.len.symm) (fun i hi => ?_)
  by_cases hn : i < n
  · exact hb i hn
  · rw [h.rest i (by omega), k.rest i (by omega)]
end Go.Proofs.YtnhgichiedninaaGreatDoor

namespace Go.Proofs.YtnhgichiedninaaGreatDoor
set_option linter.unusedSimpArgs false
set_option linter.unusedVariables false

structure SeedV where
  frm : Int
  cnt : Int
  under : Bool
  fails : Int
  bad : Int
  after : Int
  out : Bool
deriving DecidableEq, Repr
def seed0 : SeedV := ⟨0, 0, false, 0, 0, 0, false⟩
structure CliV where
  seeds : List SeedV
  n : Nat
  want : List UInt8
  run : Int
  now : Int
/-- Is piece i under way? -/
def SeedV.has (s : SeedV) (i : Int) : Bool := s.under && decide (s.frm ≤ i) && decide (i < s.frm + s.cnt)
def flyB (S : List SeedV) (i : Nat) : Bool := S.any fun s => s.has i
/-- May piece i be got? -/
def CliV.free (c : CliV) (i : Nat) : Bool := bitL c.want i && !(flyB c.seeds i)
/-- How many pieces one behind the other may be got, from i on; d: how many there are from i on. -/
def lenF (f : Nat → Bool) (i : Nat) : Nat → Nat
  | 0 => 0
  | d + 1 => if f i then lenF f (i + 1) d + 1 else 0
theorem lenF_le (f : Nat → Bool) : ∀ (d i : Nat), lenF f i d ≤ d
  | 0, _ => by simp [lenF]
  | d + 1, i => by
    have := lenF_le f d (i + 1)
    rw [lenF]
    split <;> omega
theorem lenF_all (f : Nat → Bool) : ∀ (d i k : Nat), k < lenF f i d → f (i + k) = true
  | 0, _, _, h => by simp [lenF] at h
  | d + 1, i, k, h => by
    rw [lenF] at h
    split at h
    · next q =>
      cases k with
      | zero => exact q
      | succ k =>
        have := lenF_all f d (i + 1) k (by omega)
        rwa [show i + 1 + k = i + (k + 1) by omega] at this
    · omega
theorem lenF_end (f : Nat → Bool) : ∀ (d i : Nat), lenF f i d < d → f (i + lenF f i d) = false
  | 0, _, h => by omega
  | d + 1, i, h => by
    rw [lenF] at h ⊢
    split
    · next q =>
      rw [if_pos q] at h
      have := lenF_end f d (i + 1) (by omega)
      rwa [show i + 1 + lenF f (i + 1) d = i + (lenF f (i + 1) d + 1) by omega] at this
    · next q => simpa using q
theorem lenF_step (f : Nat → Bool) {i d : Nat} (h : f i = true) : lenF f i (d + 1) = lenF f (i + 1) d + 1 := by rw [lenF, if_pos h]
/-- The maximal runs from i on, of n pieces. -/
def runsG (f : Nat → Bool) (n : Nat) : Nat → Nat → List (Nat × Nat)
  | 0, _ => []
  | fuel + 1, i => if i < n then (if lenF f i (n - i) = 0 then runsG f n fuel (i + 1) else (i, lenF f i (n - i)) :: runsG f n fuel (i + lenF f i (n - i) + 1)) else []
def runsF (f : Nat → Bool) (n : Nat) (i : Nat) : List (Nat × Nat) := runsG f n (n - i) i
theorem runsG_end (f : Nat → Bool) (n : Nat) : ∀ (fuel i : Nat), n ≤ i → runsG f n fuel i = []
  | 0, _, _ => rfl
  | fuel + 1, i, h => by rw [runsG, if_neg (by omega)]
theorem runsG_fuel (f : Nat → Bool) (n : Nat) : ∀ (fuel fuel' i : Nat), n - i ≤ fuel → n - i ≤ fuel' → runsG f n fuel i = runsG f n fuel' i
  | 0, fuel', i, h, _ => by rw [runsG_end f n fuel' i (by omega)]; rfl
  | fuel + 1, 0, i, _, h => by rw [runsG_end f n (fuel + 1) i (by omega)]; rfl
  | fuel + 1, fuel' + 1, i, h1, h2 => by
    rw [runsG, runsG]
    split
    · next hi =>
      split
      · exact runsG_fuel f n fuel fuel' (i + 1) (by omega) (by omega)
      · rw [runsG_fuel f n fuel fuel' (i + lenF f i (n - i) + 1) (by omega) (by omega)]
    · rfl
theorem runsF_end {f : Nat → Bool} {n i : Nat} (h : n ≤ i) : runsF f n i = [] := runsG_end f n _ i h
theorem runsF_none {f : Nat → Bool} {n i : Nat} (h : i < n) (h0 : lenF f i (n - i) = 0) : runsF f n i = runsF f n (i + 1) := by
  unfold runsF
  obtain ⟨d, hd⟩ : ∃ d, n - i = d + 1 := ⟨n - i - 1, by omega⟩
  rw [hd, runsG, if_pos h, if_pos h0]
  exact runsG_fuel f n _ _ _ (by omega) (by omega)
theorem runsF_some {f : Nat → Bool} {n i : Nat} (h : i < n) (h0 : lenF f i (n - i) ≠ 0) : runsF f n i = (i, lenF f i (n - i)) :: runsF f n (i + lenF f i (n - i) + 1) := by
  unfold runsF
  obtain ⟨d, hd⟩ : ∃ d, n - i = d + 1 := ⟨n - i - 1, by omega⟩
  have := runsG_fuel f n d (n - (i + lenF f i (n - i) + 1)) (i + lenF f i (n - i) + 1) (by omega) (by omega)
  conv => lhs; rw [hd, runsG, if_pos h, if_neg h0]
  rw [this]
/-- Each run is one of pieces that may be got; and each such piece lies in one. -/
theorem runs_good (f : Nat → Bool) (n : Nat) : ∀ (fuel i : Nat), n - i ≤ fuel → ∀ r ∈ runsF f n i, i ≤ r.1 ∧ 1 ≤ r.2 ∧ r.1 + r.2 ≤ n ∧ ∀ k, r.1 ≤ k → k < r.1 + r.2 → f k = true
  | 0, i, h, r, hr => by rw [runsF_end (by omega)] at hr; simp at hr
  | fuel + 1, i, h, r, hr => by
    by_cases hi : i < n
    · by_cases h0 : lenF f i (n - i) = 0
      · rw [runsF_none hi h0] at hr
        obtain ⟨a, b⟩ := runs_good f n fuel (i + 1) (by omega) r hr
        exact ⟨by omega, b⟩
      · rw [runsF_some hi h0] at hr
        have hle := lenF_le f (n - i) i
        rcases List.mem_cons.1 hr with rfl | hr
        · refine ⟨Nat.le_refl _, by simp only; omega, by simp only; omega, fun k h1 h2 => ?_⟩
          have := lenF_all f (n - i) i (k - i) (by simp only at h2; omega)
          simp only at h1
          rwa [show i + (k - i) = k by omega] at this
        · obtain ⟨a, b⟩ := runs_good f n fuel _ (by omega) r hr
          exact ⟨by omega, b⟩
    · rw [runsF_end (by omega)] at hr; simp at hr
theorem runs_all (f : Nat → Bool) (n : Nat) : ∀ (fuel i : Nat), n - i ≤ fuel → ∀ k, i ≤ k → k < n → f k = true → runsF f n i ≠ []
  | 0, i, h, k, h1, h2, _ => by omega
  | fuel + 1, i, h, k, h1, h2, hk => by
    have hi : i < n := by omega
    by_cases h0 : lenF f i (n - i) = 0
    · rw [runsF_none hi h0]
      by_cases e : k = i
      · subst e
        obtain ⟨d, hd⟩ : ∃ d, n - k = d + 1 := ⟨n - k - 1, by omega⟩
        rw [hd, lenF, if_pos hk] at h0
        omega
      · exact runs_all f n fuel (i + 1) (by omega) k (by omega) h2 hk
    · rw [runsF_some hi h0]; simp
/-- The first one of the runs of which most pieces are counted, each as at most m. -/
def bestG (m : Int) : Option (Nat × Nat) → List (Nat × Nat) → Option (Nat × Nat)
  | b, [] => b
  | none, r :: l => bestG m (some r) l
  | some b, r :: l => bestG m (if min (b.2 : Int) m < min (r.2 : Int) m then some r else some b) l
theorem best_mem (m : Int) : ∀ (l : List (Nat × Nat)) (b : Option (Nat × Nat)) (r : Nat × Nat), bestG m b l = some r → b = some r ∨ r ∈ l
  | [], b, r, h => .inl h
  | x :: l, none, r, h => by
    rcases best_mem m l (some x) r h with q | q
    · injection q with q; exact .inr (by simp [q])
    · exact .inr (by simp [q])
  | x :: l, some b, r, h => by
    rw [bestG] at h
    rcases best_mem m l _ r h with q | q
    · split at q
      · injection q with q; exact .inr (by simp [q])
      · exact .inl q
    · exact .inr (by simp [q])
theorem best_none (m : Int) : ∀ (l : List (Nat × Nat)) (b : Option (Nat × Nat)), bestG m b l = none → b = none ∧ l = []
  | [], b, h => ⟨h, rfl⟩
  | x :: l, none, h => by have := (best_none m l _ h).1; cases this
  | x :: l, some b, h => by
    rw [bestG] at h
    have := (best_none m l _ h).1
    split at this <;> cases this
/-- The run that is got next. -/
def CliV.next (c : CliV) : Option (Nat × Nat) := (bestG c.run none (runsF c.free c.n 0)).map fun r => (r.1, min r.2 c.run.toNat)
end Go.Proofs.YtnhgichiedninaaGreatDoor
