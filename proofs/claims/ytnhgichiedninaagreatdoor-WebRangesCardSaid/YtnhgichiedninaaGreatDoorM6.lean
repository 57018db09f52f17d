/-
  Several texts in one, in their build order. The walk of Decimal (the reference): the decimal text of a number. Condition: an int. A map of strings to the truth 'true' that a call has made: a set. Its look-up and its store, for a walk. Over any program. No condition.
-/
import Derived.Test.YtnhgichiedninaaGreatDoorM3
import Derived.Laws.BytesArg
import Derived.Test.YtnhgichiedninaaGreatDoorM1
import Derived.Maps.OwnOps
import Derived.MapKept
import Derived.Carry
namespace Go.Proofs.YtnhgichiedninaaGreatDoor
set_option linter.unusedSimpArgs false
set_option linter.unusedVariables false
open Go.RowKit

theorem itoa_one {m : Nat} (h : m < 10) : itoaB (m : Int) = ⟨#[UInt8.ofNat (48 + m)]⟩ := by
  unfold itoaB Lib.itoa
  rw [if_neg (by omega), Lib.decDigits, dif_pos (by simpa using h)]
  simp
theorem itoa_more {m : Nat} (h : ¬ m < 10) : itoaB (m : Int) = itoaB ((m / 10 : Nat) : Int) ++ ⟨#[UInt8.ofNat (48 + m % 10)]⟩ := by
  apply bytes_ext
  unfold itoaB Lib.itoa
  rw [if_neg (by omega), Lib.decDigits, dif_neg (by simpa using h), if_neg (by omega)]
  have : ((m / 10 : Nat) : Int).toNat = m / 10 := Int.toNat_natCast _
  rw [this]
  simp

theorem itoa_size {n : Int} (h0 : -9223372036854775808 ≤ n) (h1 : n ≤ 9223372036854775807) : (itoaB n).size ≤ 21 := by
  have := Lib.itoa_length_le n h0 h1
  show (Lib.itoa n).toArray.size ≤ 21
  simpa using this
theorem ret_str {a b : ByteArray} (h : a = b) : Ending.returned (.string a) = .returned (.string b) := by rw [h]
theorem one_byte (w : World) (v : Int) : (convert 83 9 (.slice (some ⟨w.heap.size, 0, none⟩) 1 1)).run Tryz.prog (w.alloc (.cells #[.int .u8 v] 5)) = .ok (.string ⟨#[UInt8.ofNat v.toNat]⟩) (w.alloc (.cells #[.int .u8 v] 5)) := by
  have := run_convert_bytes_arg (P := Tryz.prog) (w.alloc (.cells #[.int .u8 v] 5)) 83 5 Tryz.underlying83 Tryz.underlying5 w.heap.size 0 1 1 [v] rfl (fun i hi => by
    obtain rfl : i = 0 := by omega
    exact (Blk.new w #[.int .u8 v] 5).cellv 0 rfl) 9 Tryz.underlying9
  rw [this]
  rfl

set_option maxRecDepth 100000 in
set_option maxHeartbeats 1000000 in
theorem decimal_nat (m : Nat) : (m : Int) ≤ 9223372036854775807 → ∀ w : World, Calls Tryz.prog 155 #[.int .i64 m] w fun e w' => e = .returned (.string (itoaB m)) ∧ New w w' := by
  induction m using Nat.strongRecOn with
  | ind m ih =>
    intro hm w
    have hcv := one_byte w (48 + (m : Int) % 10)
    have h48 : (48 + (m : Int) % 10).toNat = 48 + m % 10 := by omega
    by_cases h : m < 10
    · have HI := hid (itoa_one h)
      have hmm : m % 10 = m := by omega
      have HM := hid (And.intro h48 hmm)
      clear ih h48 hmm
      go_enter Tryz.func155, Tryz.ntmps155
      go_wp2
      go_ret
      exact ⟨ret_str (by rw [HI.out, HM.out.2]), (Mod.refl _ _).alloc _⟩
    · have e10 : ((m / 10 : Nat) : Int) = (m : Int) / 10 := by omega
      have HI := hid (itoa_more h)
      have HM := hid h48
      have IH := hid (ih (m / 10) (by omega) (by omega))
      rw [e10] at HI IH
      have hs1 := itoa_size (n := (m : Int) / 10) (by omega) (by omega)
      have hs2 : (⟨#[48 + UInt8.ofNat (m % 10)]⟩ : ByteArray).size = 1 := rfl
      clear ih h48 e10
      go_enter Tryz.func155, Tryz.ntmps155
      go_wp2_with (go_at_call 155; refine (IH.out _).mono ?_; rintro e w1 ⟨rfl, h1⟩; have H1 := hid h1; clear h1)
      go_ret
      exact ⟨ret_str (by rw [HI.out]; simp), ((Mod.refl _ _).alloc _).trans H1.out⟩

theorem itoa_small {m : Nat} (h0 : 0 < m) (h : m < 10) : itoaB (-(m : Int)) = ⟨#[45]⟩ ++ itoaB m := by
  apply bytes_ext
  rw [show (-(m : Int)) = -((m : Nat) : Int) from rfl]
  simp [itoaB, Lib.itoa_neg m (by omega), Lib.itoa_nonneg m]
theorem itoa_great {m : Nat} (h : ¬ m < 10) : itoaB (-(m : Int)) = itoaB (-((m / 10 : Nat) : Int)) ++ itoaB ((m % 10 : Nat) : Int) := by
  apply bytes_ext
  unfold itoaB
  rw [Lib.itoa_neg m (by omega), Lib.itoa_neg (m / 10) (by omega), Lib.itoa_nonneg, Lib.decDigits, dif_neg (by simpa using h), Lib.decDigits_one (show m % 10 < 10 by omega)]
  simp

set_option maxRecDepth 100000 in
set_option maxHeartbeats 1000000 in
theorem decimal_neg (m : Nat) : 0 < m → (m : Int) ≤ 9223372036854775808 → ∀ w : World, Calls Tryz.prog 155 #[.int .i64 (-(m : Int))] w fun e w' => e = .returned (.string (itoaB (-(m : Int)))) ∧ New w w' := by
  induction m using Nat.strongRecOn with
  | ind m ih =>
    intro h0 hm w
    have hq : (-(m : Int)).tdiv 10 = -((m / 10 : Nat) : Int) := by
      rw [Int.neg_tdiv, Int.tdiv_eq_ediv_of_nonneg (by omega)]; simp
    by_cases h : m < 10
    · have HI := hid (itoa_small h0 h)
      have hz : (m : Int) / 10 = 0 := by omega
      have IH := hid (decimal_nat m (by omega))
      have hs1 := itoa_size (n := (m : Int)) (by omega) (by omega)
      clear ih hq
      go_enter Tryz.func155, Tryz.ntmps155
      go_wp2_with (go_at_call 155; refine (IH.out _).mono ?_; rintro e w1 ⟨rfl, h1⟩; have H1 := hid h1; clear h1)
      go_ret
      exact ⟨ret_str HI.out.symm, H1.out⟩
    · have e10 : ((m / 10 : Nat) : Int) = (m : Int) / 10 := by omega
      have e11 : ((m % 10 : Nat) : Int) = (m : Int) % 10 := by omega
      have HI := hid (itoa_great h)
      have hnz : (-((m : Int) / 10) == 0) = false := by simp; omega
      have hb : -922337203685477581 ≤ -((m : Int) / 10) ∧ -((m : Int) / 10) < 0 := by omega
      have IH := hid (ih (m / 10) (by omega) (by omega) (by omega))
      have IH2 := hid (decimal_nat (m % 10) (by omega))
      rw [e10] at IH HI
      rw [e11] at IH2 HI
      have hs1 := itoa_size (n := -((m : Int) / 10)) (by omega) (by omega)
      have hs2 := itoa_size (n := (m : Int) % 10) (by omega) (by omega)
      have tok : True := trivial
      clear ih hq e10 e11
      go_enter Tryz.func155, Tryz.ntmps155
      go_wp2_with (first | (go_at_call 155; have tk := tok; clear tok; refine (IH.out _).mono ?_; rintro e w1 ⟨rfl, h1⟩; have H1 := hid h1; clear h1) | (go_at_call 155; refine (IH2.out _).mono ?_; rintro e w2 ⟨rfl, h2⟩; have H2 := hid h2; clear h2))
      go_ret
      exact ⟨ret_str HI.out.symm, H1.out.trans H2.out⟩
/-- Decimal writes a number as the program does. -/
theorem decimal_any (n : Int) (h0 : -9223372036854775808 ≤ n) (h1 : n ≤ 9223372036854775807) (w : World) : Calls Tryz.prog 155 #[.int .i64 n] w fun e w' => e = .returned (.string (itoaB n)) ∧ New w w' := by
  by_cases h : 0 ≤ n
  · obtain ⟨m, rfl⟩ := Int.eq_ofNat_of_zero_le h
    exact decimal_nat m h1 w
  · obtain ⟨m, rfl⟩ : ∃ m : Nat, n = -(m : Int) := ⟨n.natAbs, by omega⟩
    exact decimal_neg m (by omega) (by omega) w
end Go.Proofs.YtnhgichiedninaaGreatDoor

namespace Go.Proofs.YtnhgichiedninaaGreatDoor
set_option linter.unusedSimpArgs false
set_option linter.unusedVariables false
open Go.RowKit Go.MapKept

/-- Block b is a map; its keys are just the strings of S, and each has the element true. -/
def SetAt (w : World) (b : Nat) (S : List ByteArray) : Prop :=
  ∃ es clock, w.heap[b]? = some (.map es clock) ∧ (∀ x ∈ es.toList, IsKey .string x.key ∧ x.val = .bool true) ∧ ∀ s : ByteArray, (∃ x ∈ es.toList, x.key = .string s) ↔ s ∈ S

theorem SetAt.of_heap {w w' : World} {b : Nat} {S : List ByteArray} (h : SetAt w b S) (e : w'.heap[b]? = w.heap[b]?) : SetAt w' b S := by
  obtain ⟨es, clock, hb, h1, h2⟩ := h
  exact ⟨es, clock, e.trans hb, h1, h2⟩
theorem SetAt.lt {w : World} {b : Nat} {S : List ByteArray} (h : SetAt w b S) : b < w.heap.size := by
  obtain ⟨es, clock, hb, -⟩ := h
  exact (Array.getElem?_eq_some_iff.1 hb).1
theorem SetAt.alloc {w : World} {b : Nat} {S : List ByteArray} (h : SetAt w b S) (o : Obj) : SetAt (w.alloc o) b S := h.of_heap (Below.heap_alloc w o b h.lt)
theorem SetAt.drew {w : World} {b : Nat} {S : List ByteArray} (h : SetAt w b S) : SetAt w.drew b S := h
theorem SetAt.other {w : World} {b : Nat} {S : List ByteArray} {p : Addr} {u : Value} (hp : b ≠ p.block) (h : SetAt w b S) : SetAt (w.setCell p u) b S := h.of_heap (Below.heap_setCell w p u b hp)
theorem SetAt.mod {T : Nat → Prop} {w w' : World} {b : Nat} {S : List ByteArray} (h : SetAt w b S) (hm : Mod T w w') (hn : ¬ T b) : SetAt w' b S := h.of_heap (hm.block b h.lt hn)
theorem SetAt.made (w : World) : SetAt (w.alloc (.map #[] 0)) w.heap.size [] :=
  ⟨#[], 0, (MapKept.heap_alloc w _).1, by simp, by simp⟩
theorem SetAt.madeAt {w : World} {b : Nat} (h : b = w.heap.size) : SetAt (w.alloc (.map #[] 0)) b [] := h ▸ SetAt.made w

theorem key_is (s : ByteArray) : IsKey .string (.string s) := by simp [IsKey]

theorem SetAt.lookup {P : Program} {w : World} {b : Nat} {S : List ByteArray} {t k e : TypeId} (h : SetAt w b S) (ht : P.underlying t = some (.map k e)) (hk : P.underlying k = some .string) (hz : (zeroValue e).run P w = .ok (.bool false) w) (s : ByteArray) :
    (Instr.lookup t (.map (some b)) (.string s) false).run P w = .ok (.bool (hasB S s)) w := by
  obtain ⟨es, clock, hb, h1, h2⟩ := h
  rcases findNow_spec (key_is s) es.toList 0 (fun x hx => (h1 x hx).1) with ⟨f1, f2⟩ | ⟨j, x, f1, f2, f3⟩
  · have hn : s ∉ S := fun hs => by
      obtain ⟨x, hx, e⟩ := (h2 s).2 hs
      exact f2 x hx e
    simp [Instr.lookup, run_underlying ht, MapKept.run_getObj_map hb, MapKept.run_checkKey hk (key_is s), MapKept.run_findKey hk f1, hz, Result.andThen, hasB_no hn]
  · have hx := List.mem_of_getElem? f2
    have hs : s ∈ S := (h2 s).1 ⟨x, hx, f3⟩
    simp [Instr.lookup, run_underlying ht, MapKept.run_getObj_map hb, MapKept.run_checkKey hk (key_is s), MapKept.run_findKey hk f1, Result.andThen, hasB_yes hs, (h1 x hx).2]

theorem Mod.setObj {w : World} {b : Nat} (o : Obj) : Mod (· = b) w { w with heap := w.heap.setIfInBounds b o } :=
  ⟨rfl, rfl, rfl, by simp, fun k hk hn => by simp [Ne.symm hn]⟩

theorem SetAt.update {P : Program} {w : World} {b : Nat} {S : List ByteArray} {t k e : TypeId} (h : SetAt w b S) (ht : P.underlying t = some (.map k e)) (hk : P.underlying k = some .string) (s : ByteArray) :
    ∃ w', (Instr.mapUpdate t (.map (some b)) (.string s) (.bool true)).run P w = .ok () w' ∧ SetAt w' b (s :: S) ∧ Mod (· = b) w w' := by
  obtain ⟨es, clock, hb, h1, h2⟩ := h
  rcases findNow_spec (key_is s) es.toList 0 (fun x hx => (h1 x hx).1) with ⟨f1, f2⟩ | ⟨j, x, f1, f2, f3⟩
  · refine ⟨_, by simp [Instr.mapUpdate, run_underlying ht, MapKept.run_getObj_map hb, MapKept.run_checkKey hk (key_is s), MapKept.run_findKey hk f1, MapKept.run_setObj_map _ hb, Result.andThen]; rfl, ⟨_, _, (MapKept.heap_set hb).1, ?_, ?_⟩, Mod.setObj _⟩
    · intro x hx
      simp only [Array.toList_push, List.mem_append, List.mem_singleton] at hx
      rcases hx with hx | rfl
      · exact h1 x hx
      · exact ⟨key_is s, rfl⟩
    · intro s'
      simp only [Array.toList_push, List.mem_append, List.mem_cons, List.not_mem_nil, or_false]
      constructor
      · rintro ⟨x, hx | rfl, e⟩
        · exact .inr ((h2 s').1 ⟨x, hx, e⟩)
        · simp at e
          exact .inl e.symm
      · rintro (rfl | hs)
        · exact ⟨_, .inr rfl, rfl⟩
        · obtain ⟨x, hx, e⟩ := (h2 s').2 hs
          exact ⟨x, .inl hx, e⟩
  · have hx := List.mem_of_getElem? f2
    have fe : es[j]? = some x := by simpa using f2
    have hkk : (((es[j]?).map (·.key)).getD (.string s)) = .string s := by rw [fe]; simpa using f3
    refine ⟨_, by simp [Instr.mapUpdate, run_underlying ht, MapKept.run_getObj_map hb, MapKept.run_checkKey hk (key_is s), MapKept.run_findKey hk f1, MapKept.run_setObj_map _ hb, Result.andThen, hkk, MapKept.run_keyThatStays (key_is s), fe, f3]; rfl, ⟨_, _, (MapKept.heap_set hb).1, ?_, ?_⟩, Mod.setObj _⟩
    · intro y hy
      obtain ⟨i, hi⟩ := List.mem_iff_getElem?.1 hy
      simp only [Array.getElem?_toList, Array.getElem?_modify] at hi
      split at hi
      · next e =>
        subst e
        rw [fe] at hi
        simp at hi
        subst hi
        exact ⟨key_is s, rfl⟩
      · exact h1 y (Array.mem_toList_iff.2 (Array.mem_of_getElem? hi))
    · intro s'
      have hs : s ∈ S := (h2 s).1 ⟨x, hx, f3⟩
      have hkeys : ((es.modify j fun e => { e with key := .string s, val := .bool true }).toList.map (·.key)) = es.toList.map (·.key) := modify_keys j _ (fun e he => by rw [fe] at he; cases he; exact f3.symm)
      have hiff : ∀ (l : List MapEntry), (∃ y ∈ l, y.key = .string s') ↔ (.string s' : Value) ∈ l.map (·.key) := fun l => by simp [List.mem_map]
      rw [hiff, hkeys, ← hiff, h2 s']
      constructor
      · exact fun a => .tail _ a
      · intro a
        cases a with
        | head => exact hs
        | tail _ a => exact a

theorem wpList_lookup_set {P : Program} (w : World) {ops : Array Oper} {rest : List Oper} {o : Oper} {a : Act} {Q : Exit → Act → World → Prop}
    (hg : o.guard = none) (m x : Operand) (t : TypeId) (hop : o.op = Op.lookup t m x false)
    (k e : TypeId) (ht : P.underlying t = some (.map k e)) (hk : P.underlying k = some .string) (hz : ∀ w, (zeroValue e).run P w = .ok (.bool false) w) (b : Nat) (S : List ByteArray)
    (hm : a.eval m = .map (some b)) (hown : SetAt w b S) (s : ByteArray) (hx : a.eval x = .string s)
    (hK : wpList P ops Q rest (a.put o.dst (.bool (hasB S s))) w) :
    wpList P ops Q (o :: rest) a w := by
  refine wpList_plain hg fun K' hK' => ?_
  unfold Oper.wp
  simp [execOp, hop, hm, hx, hown.lookup ht hk (hz w) s, Result.andThen]
  exact hK' _ _ hK

theorem wpList_mapUpdate_set {P : Program} (w : World) {ops : Array Oper} {rest : List Oper} {o : Oper} {a : Act} {Q : Exit → Act → World → Prop}
    (hg : o.guard = none) (m x v : Operand) (t : TypeId) (hop : o.op = Op.mapUpdate t m x v)
    (k e : TypeId) (ht : P.underlying t = some (.map k e)) (hk : P.underlying k = some .string) (b : Nat) (S : List ByteArray)
    (hm : a.eval m = .map (some b)) (hown : SetAt w b S) (s : ByteArray) (hx : a.eval x = .string s) (hv : a.eval v = .bool true)
    (hK : ∀ w', SetAt w' b (s :: S) → Mod (· = b) w w' → wpList P ops Q rest (a.put o.dst undef) w') :
    wpList P ops Q (o :: rest) a w := by
  refine wpList_plain hg fun K' hK' => ?_
  obtain ⟨w', hrun, r1, r2⟩ := hown.update ht hk s
  unfold Oper.wp
  simp [execOp, hop, hm, hx, hv, hrun, Result.andThen]
  exact hK' _ _ (hK w' r1 r2)
end Go.Proofs.YtnhgichiedninaaGreatDoor
