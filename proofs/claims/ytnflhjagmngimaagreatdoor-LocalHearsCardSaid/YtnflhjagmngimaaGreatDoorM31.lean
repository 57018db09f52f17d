/-
  Several texts in one, in their build order. Contracts of the kit's shelf laid at this program, in plain words, written by the kit's tool. No condition. The library's Clone and Sort of a list of texts. Conditions: the lists lie as told and are not long.
-/
import Derived.Shelf.Small.Bits
import Derived.Shelf.Small.Strs
import Derived.Shelf.Strconv.Atoi
import Derived.Shelf.Strconv.Itoa0
import Derived.Shelf.Strconv.Itoa1
import Derived.Shelf.LaysM
import Derived.Shelf.Strconv.Itoa2
import Derived.Shelf.Strconv.Itoa3
import Derived.Shelf.Strconv.AtoiErrFast
import Derived.Shelf.Strconv.ParseIntEmpty
import Derived.Shelf.Strconv.AtoiFail
import Derived.Shelf.Strconv.Clone
import Derived.Shelf.Strconv.SyntaxError
import Derived.Shelf.LaysC
import Derived.Shelf.Strconv.ToError
import Derived.Shelf.Strconv.Lower
import Derived.Shelf.Strconv.ParseUint10
import Derived.Shelf.Strconv.ParseUint10Empty
import Derived.Shelf.Strconv.ParseUint10Any
import Derived.Shelf.Strconv.ParseInt10
import Derived.Shelf.Strconv.AtoiLong
import Derived.Shelf.Strconv.AtoiInnerAll
import Derived.Shelf.Strconv.RangeError
import Derived.Shelf.Strconv.ToErrorRange
import Derived.Shelf.Strconv.AtoiAll
import Derived.Shelf.Strconv.ErrVarAll
import Derived.Shelf.Strings.Search1
import Derived.Shelf.Strings.Search2
import Derived.Shelf.Strings.Search3
import Derived.Shelf.Strings.Cut
import Derived.Shelf.Strings.Count
import Derived.Shelf.Strings.Shaped
import Derived.Shelf.Sort.Plain
import Derived.Shelf.Strings.Split
import Derived.Shelf.Unicode.DecodeSlow
import Derived.Ground.Names2Prog
import Derived.Shelf.Slices.Clone
import Derived.Shelf.Slices.In.SortNone
import Derived.Ground.SlsfProg
import Derived.Shelf.SlSortCmp.Insertion
import Derived.Shelf.SlSortCmp.SiftDown1
import Derived.Shelf.SlSortCmp.HeapSort1
import Derived.Shelf.SlSortCmp.Insertion1
import Derived.Shelf.SlSortCmp.Median1
import Derived.Shelf.SlSortCmp.Pivot1
import Derived.Shelf.SlSortCmp.ReverseRange1
import Derived.Shelf.SlSortCmp.PartialInsertion1
import Derived.Shelf.SlSortCmp.PartitionEqual1
import Derived.Shelf.SlSortCmp.Partition1
import Derived.Shelf.SlSortCmp.Pdq1
import Derived.Shelf.SlSortCmp.Whole1
import Derived.Shelf.SlSortCmp.NoneTotal
import Derived.Test.YtnflhjagmngimaaGreatDoorProg
import Derived.Test.YtnflhjagmngimaaGreatDoorM26
namespace Go.Proofs
open Go.Shelf
def Tryz.laysNm216_ren : Go.Shelf.Ren := ⟨fun | 16 => 39 | n => n, fun | 24 => 22 | 9 => 9 | 4 => 4 | n => n, fun | n => n⟩
theorem Tryz.laysNm216 : Go.Proofs.Lays2.n16 Tryz.prog Tryz.laysNm216_ren := {
  mixed := by kernel_rfl
  f16 := Tryz.func39.trans (congrArg some (by kernel_rfl))
  t4 := Tryz.underlying4
  a4 := Tryz.isAgg4
  z4 := Tryz.sizeOf4
  v4 := Tryz.zeroValue4
  t9 := Tryz.underlying9
  a9 := Tryz.isAgg9
  z9 := Tryz.sizeOf9
  v9 := Tryz.zeroValue9
  t24 := Tryz.underlying22
  a24 := Tryz.isAgg22
  z24 := Tryz.sizeOf22
  v24 := Tryz.zeroValue22
  i9 := by kernel_rfl }
open Go.RowKit Go.Lib in
theorem Tryz.slices_Clone_string (b off n c : Nat) (zs : List ByteArray) (w : World) (hz : n ≤ zs.length) (hbig : n * 16 ≤ 140737488355328) (hc : ∀ j, j < zs.length → w.cell? ⟨b, off + j, none⟩ = some (.string (zs.getD j ByteArray.empty))) :
    Calls Tryz.prog 39 #[.slice (some ⟨b, off, none⟩) n c] w fun e w' => ∃ v', e = .returned v' ∧ w'.ownsRow w.heap.size 9 1 v' n ((zs.take n).map (Value.string)) ∧ v' ≠ .slice none 0 0 ∧ Below w.heap.size w w' := Any.slices_Clone_string Tryz.laysNm216 b off n c zs w hz hbig hc
open Go.RowKit Go.Lib in
theorem Tryz.slices_Clone_string_nil (n c : Nat) (w : World) :
    Calls Tryz.prog 39 #[.slice none n c] w fun e w' => e = .returned (.slice none 0 0) ∧ w' = w := Any.slices_Clone_string_nil Tryz.laysNm216 n c w
open Go.RowKit Go.Lib in
theorem Tryz.slices_Clone_string_zero (a : Addr) (c : Nat) (w : World) :
    Calls Tryz.prog 39 #[.slice (some a) 0 c] w fun e w' => ∃ v', e = .returned v' ∧ w'.ownsRow w.heap.size 9 1 v' 0 [] ∧ v' ≠ .slice none 0 0 ∧ Below w.heap.size w w' := Any.slices_Clone_string_zero Tryz.laysNm216 a c w
end Go.Proofs

namespace Go.Proofs.YtnflhjagmngimaaGreatDoor
set_option linter.unusedSimpArgs false
set_option linter.unusedVariables false
open Go.RowKit Go.Shelf Go.Sort

def bytesOf (l : List ByteArray) : List (List UInt8) := l.map fun s => s.data.toList
def ofBytes (l : List (List UInt8)) : List ByteArray := l.map fun s => ⟨s.toArray⟩
theorem of_bytes (l : List ByteArray) : ofBytes (bytesOf l) = l := by
  unfold ofBytes bytesOf
  rw [List.map_map]
  exact (List.map_congr_left (fun x _ => by simp)).trans (List.map_id _)
/-- The texts in order. -/
def sortB (l : List ByteArray) : List ByteArray := ofBytes ((bytesOf l).mergeSort fun x y => decide (x ≤ y))
theorem sortB_perm (l : List ByteArray) : (sortB l).Perm l := by
  have h := (List.mergeSort_perm (bytesOf l) fun x y => decide (x ≤ y)).map (fun s : List UInt8 => (⟨s.toArray⟩ : ByteArray))
  have e : (bytesOf l).map (fun s : List UInt8 => (⟨s.toArray⟩ : ByteArray)) = l := of_bytes l
  rw [e] at h
  exact h
theorem sortB_nil : sortB [] = [] := by simp [sortB, bytesOf, ofBytes]
theorem sortB_len (l : List ByteArray) : (sortB l).length = l.length := (sortB_perm l).length_eq
theorem add_zero (g k : Nat) : (⟨g, 0, none⟩ : Addr).add k = ⟨g, 0 + k, none⟩ := by unfold Addr.add; split <;> simp_all
theorem cloneT_any (a : Option Addr) (c : Nat) (l : List ByteArray) (w : World) (h : StrsAt w a c l) (hl : l.length ≤ 1000000) :
    Calls Tryz.prog 39 #[.slice a l.length c] w fun e w' => ∃ v, e = .returned v ∧ OwnT w' w.heap.size v l ∧ New w w' := by
  rcases Nat.eq_zero_or_pos l.length with h0 | h0
  · have hl0 : l = [] := List.eq_nil_of_length_eq_zero h0
    subst hl0
    cases a with
    | none =>
      refine (Tryz.slices_Clone_string_nil 0 c w).mono ?_
      rintro e w' ⟨rfl, rfl⟩
      exact ⟨_, rfl, OwnT.nil _ _, Mod.refl _ _⟩
    | some x =>
      refine (Tryz.slices_Clone_string_zero x c w).mono ?_
      rintro e w' ⟨v, rfl, ho, -, hb⟩
      exact ⟨v, rfl, ⟨ho, by simp⟩, New.of_below hb⟩
  · obtain ⟨b, o, rfl, hb, hc⟩ := h.get h0
    refine (Tryz.slices_Clone_string b o l.length c l w (Nat.le_refl _) (by omega) (fun j hj => ?_)).mono ?_
    · rw [hc j hj, List.getD_eq_getElem?_getD, List.getElem?_eq_getElem hj]
      rfl
    · rintro e w' ⟨v, rfl, ho, -, hb⟩
      rw [List.take_length] at ho
      exact ⟨v, rfl, ⟨ho, h.small⟩, New.of_below hb⟩
theorem mod_sortStr (w : World) (g n : Nat) (d : Array (List UInt8)) (os : Array Obj) (hg : g < w.heap.size) : Mod (· = g) w (grow (putRow encStr (Sort.ahead w n) g 0 d) os) := by
  refine ⟨rfl, rfl, rfl, ?_, fun k hk hne => ?_⟩
  · rw [size_grow, size_putRow]; show w.heap.size ≤ w.heap.size + _; omega
  · have hgk : g ≠ k := fun e => hne e.symm
    rw [heap_grow_old _ _ (by rw [size_putRow]; exact hk)]
    simp [putRow, mapBlock, Sort.ahead, Array.getElem?_modify, hgk]
theorem sortT_any (base : Nat) (v : Value) (l : List ByteArray) (w : World) (h : OwnT w base v l) (hl : l.length ≤ 1000000) :
    Calls Tryz.prog 40 #[v] w fun e w' => e = .returned (.tuple #[]) ∧
      ∃ (a : Option Addr) (cap : Nat), v = .slice a (sortB l).length cap ∧ StrsAt w' a cap (sortB l) ∧ (∀ x, a = some x → base ≤ x.block ∧ x.block < w'.heap.size) ∧ Mod (fun k => base ≤ k) w w' := by
  rcases h.row.2 with ⟨hv, hz⟩ | ⟨g, cap, cur, hv, hbg, hg, hnc, hcm, hcs, htake⟩
  · have hU : l = [] := List.eq_nil_of_length_eq_zero hz
    subst hU hv
    refine (show Calls Tryz.prog 40 #[.slice none 0 0] w _ from Tryz.slices_Sort_string_none none 0 w).mono ?_
    rintro e w' ⟨rfl, rfl⟩
    rw [sortB_nil]
    exact ⟨rfl, none, 0, rfl, ⟨by simp, by simp [maxLen], by simp, .inl rfl⟩, by simp, Mod.refl _ _⟩
  · subst hv
    have hgl : g < w.heap.size := (Array.getElem?_eq_some_iff.1 hg).1
    have hsz : (bytesOf l).toArray.size = l.length := by simp [bytesOf]
    have hH : Holds encStr w g 0 (bytesOf l).toArray := by
      intro j hj
      have hj' : j < l.length := by simpa [bytesOf] using hj
      refine ⟨?_, ?_⟩
      · have h1 := h.row.cells (g := g) rfl j (.string l[j]) (by simp [List.getElem?_eq_getElem hj'])
        rw [add_zero] at h1
        rw [h1, getElem!_pos _ j hj]
        simp [bytesOf, encStr]
      · simp only [World.frozen?, hg]
        rfl
    have hcon := Tryz.slices_Sort_string g 0 cap (bytesOf l) w hH hgl (by unfold bytesOf; rw [List.length_map]; omega)
    rw [show (bytesOf l).length = l.length by unfold bytesOf; rw [List.length_map]] at hcon
    refine hcon.mono ?_
    rintro e w' ⟨rfl, n, os, rfl⟩
    have hlen := sortB_len l
    have hsl : ((bytesOf l).mergeSort fun x y => decide (x ≤ y)).length = l.length := by rw [List.length_mergeSort]; unfold bytesOf; rw [List.length_map]
    have hH' := holds_sortWorld encStr w g 0 n (bytesOf l).toArray ((bytesOf l).mergeSort fun x y => decide (x ≤ y)).toArray os hgl hH (by simp [hsl, bytesOf])
    have hlt := lt_sortWorld encStr w g 0 n ((bytesOf l).mergeSort fun x y => decide (x ≤ y)).toArray os hgl
    refine ⟨rfl, some ⟨g, 0, none⟩, cap, by rw [hlen], ⟨by rw [hlen]; exact hnc, hcm, fun s hs => h.small s ((sortB_perm l).mem_iff.1 hs), .inr ⟨g, 0, rfl, hlt, fun i s hi => ?_⟩⟩, fun x hx => by injection hx with hx; subst hx; exact ⟨hbg, hlt⟩, ?_⟩
    · have hil : i < ((bytesOf l).mergeSort fun x y => decide (x ≤ y)).length := by
        have := (List.getElem?_eq_some_iff.1 hi).1
        rw [hlen] at this
        omega
      obtain ⟨q, -⟩ := hH' i (by simpa using hil)
      refine Eq.trans q ?_
      rw [getElem!_pos _ i (by simpa using hil)]
      unfold sortB ofBytes at hi
      rw [List.getElem?_map, List.getElem?_eq_getElem hil] at hi
      injection hi with hi
      rw [← hi]
      simp [encStr]
    · have hm := mod_sortStr w g n ((bytesOf l).mergeSort fun x y => decide (x ≤ y)).toArray os hgl
      exact ⟨hm.os, hm.tape, hm.output, hm.size, fun k hk hne => hm.block k hk (fun q => hne (by omega))⟩
end Go.Proofs.YtnflhjagmngimaaGreatDoor
