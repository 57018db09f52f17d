/-
  Several texts in one, in their build order. Contracts of the kit's shelf laid at this program, in plain words, written by the kit's tool. No condition. The library's Clone and Sort of a list of texts. Conditions: the lists lie as told and are not long. The walks of cookie, of the program and of the reference. Condition: the text is no longer than an int tells. The walks of names (the program) and name (the reference). Condition: the list lies as told.
-/
import Derived.Shelf.Small.Bits
import Derived.Shelf.Small.Strs
import Derived.Shelf.Strconv.Atoi
import Derived.Shelf.Strconv.Itoa0
import Derived.Shelf.Strconv.Itoa1
import Derived.Shelf.LaysM
import Derived.Shelf.Strconv.Itoa2
import Derived.Shelf.Strconv.Itoa3
import Derived.Shelf.Strconv.AtoiErrFast
import Derived.Shelf.Strconv.ParseIntEmpty
import Derived.Shelf.Strconv.AtoiFail
import Derived.Shelf.Strconv.Clone
import Derived.Shelf.Strconv.SyntaxError
import Derived.Shelf.LaysC
import Derived.Shelf.Strconv.ToError
import Derived.Shelf.Strconv.Lower
import Derived.Shelf.Strconv.ParseUint10
import Derived.Shelf.Strconv.ParseUint10Empty
import Derived.Shelf.Strconv.ParseUint10Any
import Derived.Shelf.Strconv.ParseInt10
import Derived.Shelf.Strconv.AtoiLong
import Derived.Shelf.Strconv.AtoiInnerAll
import Derived.Shelf.Strconv.RangeError
import Derived.Shelf.Strconv.ToErrorRange
import Derived.Shelf.Strconv.AtoiAll
import Derived.Shelf.Strconv.ErrVarAll
import Derived.Shelf.Strings.Search1
import Derived.Shelf.Strings.Search2
import Derived.Shelf.Strings.Search3
import Derived.Shelf.Strings.Cut
import Derived.Shelf.Strings.Count
import Derived.Shelf.Strings.Shaped
import Derived.Shelf.Sort.Plain
import Derived.Shelf.Strings.Split
import Derived.Shelf.Unicode.DecodeSlow
import Derived.Ground.Names2Prog
import Derived.Shelf.Slices.Clone
import Derived.Shelf.Slices.In.SortNone
import Derived.Ground.SlsfProg
import Derived.Shelf.SlSortCmp.Insertion
import Derived.Shelf.SlSortCmp.SiftDown1
import Derived.Shelf.SlSortCmp.HeapSort1
import Derived.Shelf.SlSortCmp.Insertion1
import Derived.Shelf.SlSortCmp.Median1
import Derived.Shelf.SlSortCmp.Pivot1
import Derived.Shelf.SlSortCmp.ReverseRange1
import Derived.Shelf.SlSortCmp.PartialInsertion1
import Derived.Shelf.SlSortCmp.PartitionEqual1
import Derived.Shelf.SlSortCmp.Partition1
import Derived.Shelf.SlSortCmp.Pdq1
import Derived.Shelf.SlSortCmp.Whole1
import Derived.Shelf.SlSortCmp.NoneTotal
import Derived.Test.YtnflhjagmngimaaGreatDoorProg
import Derived.Test.YtnflhjagmngimaaGreatDoorM10
import Derived.Test.YtnflhjagmngimaaGreatDoorM5
import Derived.Test.YtnflhjagmngimaaGreatDoorM2
import Derived.Test.YtnflhjagmngimaaGreatDoorM6
import Derived.Test.YtnflhjagmngimaaGreatDoorM3
namespace Go.Proofs
open Go.Shelf
def Tryz.laysNm216_ren : Go.Shelf.Ren := ⟨fun | 16 => 39 | n => n, fun | 24 => 22 | 9 => 9 | 4 => 4 | n => n, fun | n => n⟩
theorem Tryz.laysNm216 : Go.Proofs.Lays2.n16 Tryz.prog Tryz.laysNm216_ren := {
  mixed := by kernel_rfl
  f16 := Tryz.func39.trans (congrArg some (by kernel_rfl))
  t4 := Tryz.underlying4
  a4 := Tryz.isAgg4
  z4 := Tryz.sizeOf4
  v4 := Tryz.zeroValue4
  t9 := Tryz.underlying9
  a9 := Tryz.isAgg9
  z9 := Tryz.sizeOf9
  v9 := Tryz.zeroValue9
  t24 := Tryz.underlying22
  a24 := Tryz.isAgg22
  z24 := Tryz.sizeOf22
  v24 := Tryz.zeroValue22
  i9 := by kernel_rfl }
open Go.RowKit Go.Lib in
theorem Tryz.slices_Clone_string (b off n c : Nat) (zs : List ByteArray) (w : World) (hz : n ≤ zs.length) (hbig : n * 16 ≤ 140737488355328) (hc : ∀ j, j < zs.length → w.cell? ⟨b, off + j, none⟩ = some (.string (zs.getD j ByteArray.empty))) :
    Calls Tryz.prog 39 #[.slice (some ⟨b, off, none⟩) n c] w fun e w' => ∃ v', e = .returned v' ∧ w'.ownsRow w.heap.size 9 1 v' n ((zs.take n).map (Value.string)) ∧ v' ≠ .slice none 0 0 ∧ Below w.heap.size w w' := Any.slices_Clone_string Tryz.laysNm216 b off n c zs w hz hbig hc
open Go.RowKit Go.Lib in
theorem Tryz.slices_Clone_string_nil (n c : Nat) (w : World) :
    Calls Tryz.prog 39 #[.slice none n c] w fun e w' => e = .returned (.slice none 0 0) ∧ w' = w := Any.slices_Clone_string_nil Tryz.laysNm216 n c w
open Go.RowKit Go.Lib in
theorem Tryz.slices_Clone_string_zero (a : Addr) (c : Nat) (w : World) :
    Calls Tryz.prog 39 #[.slice (some a) 0 c] w fun e w' => ∃ v', e = .returned v' ∧ w'.ownsRow w.heap.size 9 1 v' 0 [] ∧ v' ≠ .slice none 0 0 ∧ Below w.heap.size w w' := Any.slices_Clone_string_zero Tryz.laysNm216 a c w
end Go.Proofs

namespace Go.Proofs.YtnflhjagmngimaaGreatDoor
set_option linter.unusedSimpArgs false
set_option linter.unusedVariables false
open Go.RowKit Go.Shelf Go.Sort

def bytesOf (l : List ByteArray) : List (List UInt8) := l.map fun s => s.data.toList
def ofBytes (l : List (List UInt8)) : List ByteArray := l.map fun s => ⟨s.toArray⟩
theorem of_bytes (l : List ByteArray) : ofBytes (bytesOf l) = l := by
  unfold ofBytes bytesOf
  rw [List.map_map]
  exact (List.map_congr_left (fun x _ => by simp)).trans (List.map_id _)
/-- The texts in order. -/
def sortB (l : List ByteArray) : List ByteArray := ofBytes ((bytesOf l).mergeSort fun x y => decide (x ≤ y))
theorem sortB_perm (l : List ByteArray) : (sortB l).Perm l := by
  have h := (List.mergeSort_perm (bytesOf l) fun x y => decide (x ≤ y)).map (fun s : List UInt8 => (⟨s.toArray⟩ : ByteArray))
  have e : (bytesOf l).map (fun s : List UInt8 => (⟨s.toArray⟩ : ByteArray)) = l := of_bytes l
  rw [e] at h
  exact h
theorem sortB_nil : sortB [] = [] := by simp [sortB, bytesOf, ofBytes]
theorem sortB_len (l : List ByteArray) : (sortB l).length = l.length := (sortB_perm l).length_eq
theorem add_zero (g k : Nat) : (⟨g, 0, none⟩ : Addr).add k = ⟨g, 0 + k, none⟩ := by unfold Addr.add; split <;> simp_all
theorem cloneT_any (a : Option Addr) (c : Nat) (l : List ByteArray) (w : World) (h : StrsAt w a c l) (hl : l.length ≤ 1000000) :
    Calls Tryz.prog 39 #[.slice a l.length c] w fun e w' => ∃ v, e = .returned v ∧ OwnT w' w.heap.size v l ∧ New w w' := by
  rcases Nat.eq_zero_or_pos l.length with h0 | h0
  · have hl0 : l = [] := List.eq_nil_of_length_eq_zero h0
    subst hl0
    cases a with
    | none =>
      refine (Tryz.slices_Clone_string_nil 0 c w).mono ?_
      rintro e w' ⟨rfl, rfl⟩
      exact ⟨_, rfl, OwnT.nil _ _, Mod.refl _ _⟩
    | some x =>
      refine (Tryz.slices_Clone_string_zero x c w).mono ?_
      rintro e w' ⟨v, rfl, ho, -, hb⟩
      exact ⟨v, rfl, ⟨ho, by simp⟩, New.of_below hb⟩
  · obtain ⟨b, o, rfl, hb, hc⟩ := h.get h0
    refine (Tryz.slices_Clone_string b o l.length c l w (Nat.le_refl _) (by omega) (fun j hj => ?_)).mono ?_
    · rw [hc j hj, List.getD_eq_getElem?_getD, List.getElem?_eq_getElem hj]
      rfl
    · rintro e w' ⟨v, rfl, ho, -, hb⟩
      rw [List.take_length] at ho
      exact ⟨v, rfl, ⟨ho, h.small⟩, New.of_below hb⟩
theorem mod_sortStr (w : World) (g n : Nat) (d : Array (List UInt8)) (os : Array Obj) (hg : g < w.heap.size) : Mod (· = g) w (grow (putRow encStr (Sort.ahead w n) g 0 d) os) := by
  refine ⟨rfl, rfl, rfl, ?_, fun k hk hne => ?_⟩
  · rw [size_grow, size_putRow]; show w.heap.size ≤ w.heap.size + _; omega
  · have hgk : g ≠ k := fun e => hne e.symm
    rw [heap_grow_old _ _ (by rw [size_putRow]; exact hk)]
    simp [putRow, mapBlock, Sort.ahead, Array.getElem?_modify, hgk]
theorem sortT_any (base : Nat) (v : Value) (l : List ByteArray) (w : World) (h : OwnT w base v l) (hl : l.length ≤ 1000000) :
    Calls Tryz.prog 40 #[v] w fun e w' => e = .returned (.tuple #[]) ∧
      ∃ (a : Option Addr) (cap : Nat), v = .slice a (sortB l).length cap ∧ StrsAt w' a cap (sortB l) ∧ (∀ x, a = some x → base ≤ x.block ∧ x.block < w'.heap.size) ∧ Mod (fun k => base ≤ k) w w' := by
  rcases h.row.2 with ⟨hv, hz⟩ | ⟨g, cap, cur, hv, hbg, hg, hnc, hcm, hcs, htake⟩
  · have hU : l = [] := List.eq_nil_of_length_eq_zero hz
    subst hU hv
    refine (show Calls Tryz.prog 40 #[.slice none 0 0] w _ from Tryz.slices_Sort_string_none none 0 w).mono ?_
    rintro e w' ⟨rfl, rfl⟩
    rw [sortB_nil]
    exact ⟨rfl, none, 0, rfl, ⟨by simp, by simp [maxLen], by simp, .inl rfl⟩, by simp, Mod.refl _ _⟩
  · subst hv
    have hgl : g < w.heap.size := (Array.getElem?_eq_some_iff.1 hg).1
    have hsz : (bytesOf l).toArray.size = l.length := by simp [bytesOf]
    have hH : Holds encStr w g 0 (bytesOf l).toArray := by
      intro j hj
      have hj' : j < l.length := by simpa [bytesOf] using hj
      refine ⟨?_, ?_⟩
      · have h1 := h.row.cells (g := g) rfl j (.string l[j]) (by simp [List.getElem?_eq_getElem hj'])
        rw [add_zero] at h1
        rw [h1, getElem!_pos _ j hj]
        simp [bytesOf, encStr]
      · simp only [World.frozen?, hg]
        rfl
    have hcon := Tryz.slices_Sort_string g 0 cap (bytesOf l) w hH hgl (by unfold bytesOf; rw [List.length_map]; omega)
    rw [show (bytesOf l).length = l.length by unfold bytesOf; rw [List.length_map]] at hcon
    refine hcon.mono ?_
    rintro e w' ⟨rfl, n, os, rfl⟩
    have hlen := sortB_len l
    have hsl : ((bytesOf l).mergeSort fun x y => decide (x ≤ y)).length = l.length := by rw [List.length_mergeSort]; unfold bytesOf; rw [List.length_map]
    have hH' := holds_sortWorld encStr w g 0 n (bytesOf l).toArray ((bytesOf l).mergeSort fun x y => decide (x ≤ y)).toArray os hgl hH (by simp [hsl, bytesOf])
    have hlt := lt_sortWorld encStr w g 0 n ((bytesOf l).mergeSort fun x y => decide (x ≤ y)).toArray os hgl
    refine ⟨rfl, some ⟨g, 0, none⟩, cap, by rw [hlen], ⟨by rw [hlen]; exact hnc, hcm, fun s hs => h.small s ((sortB_perm l).mem_iff.1 hs), .inr ⟨g, 0, rfl, hlt, fun i s hi => ?_⟩⟩, fun x hx => by injection hx with hx; subst hx; exact ⟨hbg, hlt⟩, ?_⟩
    · have hil : i < ((bytesOf l).mergeSort fun x y => decide (x ≤ y)).length := by
        have := (List.getElem?_eq_some_iff.1 hi).1
        rw [hlen] at this
        omega
      obtain ⟨q, -⟩ := hH' i (by simpa using hil)
      refine Eq.trans q ?_
      rw [getElem!_pos _ i (by simpa using hil)]
      unfold sortB ofBytes at hi
      rw [List.getElem?_map, List.getElem?_eq_getElem hil] at hi
      injection hi with hi
      rw [← hi]
      simp [encStr]
    · have hm := mod_sortStr w g n ((bytesOf l).mergeSort fun x y => decide (x ≤ y)).toArray os hgl
      exact ⟨hm.os, hm.tape, hm.output, hm.size, fun k hk hne => hm.block k hk (fun q => hne (by omega))⟩
end Go.Proofs.YtnflhjagmngimaaGreatDoor

namespace Go.Proofs.YtnflhjagmngimaaGreatDoor
set_option linter.unusedSimpArgs false
set_option linter.unusedVariables false
open Go.RowKit

theorem ck_bad {s : ByteArray} {k : Nat} (hk : k < s.size) (h : ¬ (33 ≤ s[k].toNat ∧ s[k].toNat ≤ 126)) : cookieOk s = false := by
  have hm : s[k] ∈ s.data.toList := by
    have : s.data.toList[k]'(by rw [Array.length_toList]; exact hk) = s[k] := rfl
    rw [← this]
    exact List.getElem_mem _
  have : s.data.toList.all (fun b => decide (33 ≤ b.toNat) && decide (b.toNat ≤ 126)) = false := by
    rw [List.all_eq_false]
    refine ⟨_, hm, ?_⟩
    simp only [Bool.and_eq_true, decide_eq_true_eq]
    exact h
  unfold cookieOk
  rw [this]
  rfl
theorem ck_good {s : ByteArray} (h : ∀ (j : Nat) (hj : j < s.size), 33 ≤ s[j].toNat ∧ s[j].toNat ≤ 126) : cookieOk s = (decide (1 ≤ s.size) && decide (s.size ≤ 30)) := by
  have : s.data.toList.all (fun b => decide (33 ≤ b.toNat) && decide (b.toNat ≤ 126)) = true := by
    rw [List.all_eq_true]
    intro c hc
    obtain ⟨j, hj, rfl⟩ := List.mem_iff_getElem.1 hc
    have hj' : j < s.size := by simpa using hj
    have := h j hj'
    simp only [Bool.and_eq_true, decide_eq_true_eq]
    exact this
  unfold cookieOk
  rw [this]
  rfl
set_option maxHeartbeats 1000000 in
theorem cookie_any (s : ByteArray) (w : World) (hs : s.size ≤ maxLen) : Calls Tryz.prog 73 #[.string s] w fun e w' => e = .returned (.bool (cookieOk s)) ∧ w = w' := by
  unfold maxLen at hs
  obtain ⟨X, hX⟩ : ∃ X, X = cookieOk s := ⟨_, rfl⟩
  rw [← hX]
  have HX := hid hX
  clear hX
  go_enter Tryz.func73, Tryz.ntmps73
  go_wp2
  go_loopw [6] (fun i wr => ∃ k : Nat, i = .int .i64 k ∧ k ≤ s.size ∧ (∀ (j : Nat) (hj : j < s.size), j < k → 33 ≤ s[j].toNat ∧ s[j].toNat ≤ 126) ∧ wr = w) (fun i _ => s.size - (intOf i).toNat)
  case atStart => exact ⟨0, rfl, by omega, by omega, rfl⟩
  case round =>
    obtain ⟨k, rfl, hk, hb, rfl⟩ := hrel
    have HB := hid hb
    clear hb
    by_cases hlt : k < s.size
    · have hltI : (k : Int) < (s.size : Int) := by omega
      by_cases h1 : s[k].toNat < 33
      · have e1 : decide ((s[k].toNat : Int) < 33) = true := by rw [decide_eq_true_eq]; omega
        have HR := hid (ck_bad hlt (by omega))
        clear h1
        go_wp2
        go_ret
        exact ⟨ret_bool (by rw [HX.out, HR.out]), rfl⟩
      · have e1 : decide ((s[k].toNat : Int) < 33) = false := by rw [decide_eq_false_iff_not]; omega
        by_cases h2 : 126 < s[k].toNat
        · have e2 : decide ((126 : Int) < (s[k].toNat : Int)) = true := by rw [decide_eq_true_eq]; omega
          have HR := hid (ck_bad hlt (by omega))
          clear h1 h2
          go_wp2
          go_ret
          exact ⟨ret_bool (by rw [HX.out, HR.out]), rfl⟩
        · have e2 : decide ((126 : Int) < (s[k].toNat : Int)) = false := by rw [decide_eq_false_iff_not]; omega
          have HE := hid (show 33 ≤ s[k].toNat ∧ s[k].toNat ≤ 126 by omega)
          clear h1 h2
          go_wp2
          exact ⟨⟨k + 1, by simp, by omega, fun j hj hjk => by rcases Nat.lt_succ_iff_lt_or_eq.1 hjk with h | h; exact HB.out j hj h; subst h; exact HE.out, trivial⟩, by simp [intOf]; omega⟩
    · have HR := hid (ck_good (s := s) (fun j hj => HB.out j hj (by omega)))
      rcases Nat.eq_zero_or_pos s.size with h0 | h0
      · have hem : s.toList.isEmpty = true := by
          rw [ByteArray.toList_eq]
          have : s.data.toList = [] := List.eq_nil_of_length_eq_zero (by rw [Array.length_toList]; exact h0)
          rw [this]
          rfl
        have hz : (s.size : Int) = 0 := by omega
        have HF := hid (show cookieOk s = false by rw [HR.out]; simp; omega)
        go_wp2
        go_ret
        exact ⟨ret_bool (by rw [HX.out, HF.out]), rfl⟩
      · have hem : s.toList.isEmpty = false := by
          rw [ByteArray.toList_eq]
          cases hq : s.data.toList with
          | nil => have : s.data.toList.length = 0 := by rw [hq]; rfl
                   rw [Array.length_toList] at this
                   exact absurd this (by show s.size ≠ 0; omega)
          | cons a r => rfl
        by_cases h30 : s.size ≤ 30
        · have e30 : (s.size : Int) ≤ 30 := by omega
          have e1 : (1 : Int) ≤ (s.size : Int) := by omega
          have HF := hid (show cookieOk s = true by rw [HR.out]; simp; omega)
          go_wp2
          go_ret
          exact ⟨ret_bool (by rw [HX.out, HF.out]), rfl⟩
        · have e30 : ¬ (s.size : Int) ≤ 30 := by omega
          have e1 : (1 : Int) ≤ (s.size : Int) := by omega
          have HF := hid (show cookieOk s = false by rw [HR.out]; simp; omega)
          go_wp2
          go_ret
          exact ⟨ret_bool (by rw [HX.out, HF.out]), rfl⟩
set_option maxHeartbeats 1000000 in
theorem rcookie_any (s : ByteArray) (w : World) (hs : s.size ≤ maxLen) : Calls Tryz.prog 80 #[.string s] w fun e w' => e = .returned (.bool (cookieOk s)) ∧ w = w' := by
  unfold maxLen at hs
  obtain ⟨X, hX⟩ : ∃ X, X = cookieOk s := ⟨_, rfl⟩
  rw [← hX]
  have HX := hid hX
  clear hX
  go_enter Tryz.func80, Tryz.ntmps80
  go_wp2
  go_loopw [6] (fun i wr => ∃ k : Nat, i = .int .i64 k ∧ k ≤ s.size ∧ (∀ (j : Nat) (hj : j < s.size), j < k → 33 ≤ s[j].toNat ∧ s[j].toNat ≤ 126) ∧ wr = w) (fun i _ => s.size - (intOf i).toNat)
  case atStart => exact ⟨0, rfl, by omega, by omega, rfl⟩
  case round =>
    obtain ⟨k, rfl, hk, hb, rfl⟩ := hrel
    have HB := hid hb
    clear hb
    by_cases hlt : k < s.size
    · have hltI : (k : Int) < (s.size : Int) := by omega
      by_cases h1 : s[k].toNat < 33
      · have e1 : decide ((s[k].toNat : Int) < 33) = true := by rw [decide_eq_true_eq]; omega
        have HR := hid (ck_bad hlt (by omega))
        clear h1
        go_wp2
        go_ret
        exact ⟨ret_bool (by rw [HX.out, HR.out]), rfl⟩
      · have e1 : decide ((s[k].toNat : Int) < 33) = false := by rw [decide_eq_false_iff_not]; omega
        by_cases h2 : 126 < s[k].toNat
        · have e2 : decide ((126 : Int) < (s[k].toNat : Int)) = true := by rw [decide_eq_true_eq]; omega
          have HR := hid (ck_bad hlt (by omega))
          clear h1 h2
          go_wp2
          go_ret
          exact ⟨ret_bool (by rw [HX.out, HR.out]), rfl⟩
        · have e2 : decide ((126 : Int) < (s[k].toNat : Int)) = false := by rw [decide_eq_false_iff_not]; omega
          have HE := hid (show 33 ≤ s[k].toNat ∧ s[k].toNat ≤ 126 by omega)
          clear h1 h2
          go_wp2
          exact ⟨⟨k + 1, by simp, by omega, fun j hj hjk => by rcases Nat.lt_succ_iff_lt_or_eq.1 hjk with h | h; exact HB.out j hj h; subst h; exact HE.out, trivial⟩, by simp [intOf]; omega⟩
    · have HR := hid (ck_good (s := s) (fun j hj => HB.out j hj (by omega)))
      rcases Nat.eq_zero_or_pos s.size with h0 | h0
      · have hem : s.toList.isEmpty = true := by
          rw [ByteArray.toList_eq]
          have : s.data.toList = [] := List.eq_nil_of_length_eq_zero (by rw [Array.length_toList]; exact h0)
          rw [this]
          rfl
        have hz : (s.size : Int) = 0 := by omega
        have HF := hid (show cookieOk s = false by rw [HR.out]; simp; omega)
        go_wp2
        go_ret
        exact ⟨ret_bool (by rw [HX.out, HF.out]), rfl⟩
      · have hem : s.toList.isEmpty = false := by
          rw [ByteArray.toList_eq]
          cases hq : s.data.toList with
          | nil => have : s.data.toList.length = 0 := by rw [hq]; rfl
                   rw [Array.length_toList] at this
                   exact absurd this (by show s.size ≠ 0; omega)
          | cons a r => rfl
        by_cases h30 : s.size ≤ 30
        · have e30 : (s.size : Int) ≤ 30 := by omega
          have e1 : (1 : Int) ≤ (s.size : Int) := by omega
          have HF := hid (show cookieOk s = true by rw [HR.out]; simp; omega)
          go_wp2
          go_ret
          exact ⟨ret_bool (by rw [HX.out, HF.out]), rfl⟩
        · have e30 : ¬ (s.size : Int) ≤ 30 := by omega
          have e1 : (1 : Int) ≤ (s.size : Int) := by omega
          have HF := hid (show cookieOk s = false by rw [HR.out]; simp; omega)
          go_wp2
          go_ret
          exact ⟨ret_bool (by rw [HX.out, HF.out]), rfl⟩
end Go.Proofs.YtnflhjagmngimaaGreatDoor

namespace Go.Proofs.YtnflhjagmngimaaGreatDoor
set_option linter.unusedSimpArgs false
set_option linter.unusedVariables false
open Go.RowKit

theorem nm_bad {l : List ByteArray} {k : Nat} (hk : k < l.length) (h : nameAt l k = false) : namesB l = false := by
  cases hb : namesB l with
  | false => rfl
  | true =>
    have := (namesB_iff.1 hb).1 k hk
    rw [h] at this
    cases this
theorem nm_good {l : List ByteArray} (h : ∀ k, k < l.length → nameAt l k = true) : namesB l = (decide (1 ≤ l.length) && decide (l.length ≤ 20)) := by
  rw [Bool.eq_iff_iff, namesB_iff]
  simp only [Bool.and_eq_true, decide_eq_true_eq]
  exact ⟨fun x => x.2, fun x => ⟨h, x⟩⟩
theorem nameAt_zero {l : List ByteArray} (h : 0 < l.length) : nameAt l 0 = decide (l[0].size = 20) := by
  unfold nameAt
  rw [List.getElem?_eq_getElem h]
  simp
theorem nameAt_succ {l : List ByteArray} {j : Nat} (h : j + 1 < l.length) : nameAt l (j + 1) = (decide (l[j + 1].size = 20) && Op.bytesLess l[j].toList l[j + 1].toList) := by
  unfold nameAt
  rw [List.getElem?_eq_getElem h]
  dsimp only
  rw [List.getElem?_eq_getElem (show j < l.length by omega)]
set_option maxRecDepth 100000 in
set_option maxHeartbeats 2000000 in
theorem names_any (a : Option Addr) (c : Nat) (l : List ByteArray) (w : World) (h : StrsAt w a c l) : Calls Tryz.prog 72 #[.slice a l.length c] w fun e w' => e = .returned (.bool (namesB l)) ∧ w = w' := by
  have hm1 := h.room; have hm2 := h.cap
  unfold maxLen at hm2
  have HSM := hid h.small
  obtain ⟨X, hX⟩ : ∃ X, X = namesB l := ⟨_, rfl⟩
  rw [← hX]
  have HX := hid hX
  clear hX
  by_cases hz : 0 < l.length
  · obtain ⟨b1, o1, rfl, hb1, hc1⟩ := h.get hz
    have HC1 := hid hc1
    clear h hc1
    go_enter Tryz.func72, Tryz.ntmps72
    go_wp2
    go_loopw [7] (fun i wr => ∃ k : Nat, i = .int .i64 k ∧ k ≤ l.length ∧ (∀ j, j < k → nameAt l j = true) ∧ wr = w) (fun i _ => l.length - (intOf i).toNat)
    case atStart => exact ⟨0, rfl, by omega, by omega, rfl⟩
    case round =>
      obtain ⟨k, rfl, hk, hb, rfl⟩ := hrel
      have HB := hid hb
      clear hb
      by_cases hlt : k < l.length
      · have hltI : (k : Int) < (l.length : Int) := by omega
        have hc := HC1.out k hlt
        have hsz0 := HSM.out l[k] (List.getElem_mem _)
        unfold maxLen at hsz0
        by_cases hsz : l[k].size = 20
        · have e1 : ((l[k].size : Int) != 20) = false := by rw [bne_eq_false_iff_eq]; omega
          rcases Nat.eq_zero_or_pos k with h0 | h0
          · subst h0
            rw [Nat.add_zero] at hc
            have HE := hid (show nameAt l 0 = true by rw [nameAt_zero hlt]; simpa using hsz)
            clear hsz
            go_wp2
            exact ⟨⟨1, by simp, by omega, fun j hj => by (obtain rfl : j = 0 := by omega); exact HE.out, trivial⟩, by simp [intOf]; omega⟩
          · obtain ⟨i, rfl⟩ : ∃ i, k = i + 1 := ⟨k - 1, by omega⟩
            have hp := HC1.out i (by omega)
            have hpi : ((i + 1 : Nat) : Int) - 1 = (i : Int) := by omega
            have h0I : (0 : Int) < ((i + 1 : Nat) : Int) := by omega
            have HNA := hid (nameAt_succ hlt)
            have hlt3 := less_total l[i + 1].toList l[i].toList
            obtain ⟨S, hS⟩ : ∃ S, S = l[i + 1] := ⟨_, rfl⟩
            obtain ⟨R, hR⟩ : ∃ R, R = l[i] := ⟨_, rfl⟩
            rw [← hS, ← hR] at HNA hlt3
            rw [← hS] at hc e1 hsz hsz0
            rw [← hR] at hp
            clear hS hR
            cases hbl : Op.bytesLess R.toList S.toList with
            | true =>
              rw [hbl] at hlt3
              have HE := hid (show nameAt l (i + 1) = true by rw [HNA.out, hbl]; simpa using hsz)
              clear hbl hsz
              go_wp2
              exact ⟨⟨i + 2, by simp; omega, by omega, fun j hj => by rcases Nat.lt_succ_iff_lt_or_eq.1 hj with h | h; exact HB.out j h; subst h; exact HE.out, trivial⟩, by simp [intOf]; omega⟩
            | false =>
              rw [hbl] at hlt3
              have HF := hid (show namesB l = false from nm_bad hlt (by rw [HNA.out, hbl, Bool.and_false]))
              clear hbl hsz
              go_wp2
              go_ret
              exact ⟨ret_bool (by rw [HX.out, HF.out]), rfl⟩
        · have e1 : ((l[k].size : Int) != 20) = true := by rw [bne_iff_ne]; omega
          have hbad : nameAt l k = false := by
            unfold nameAt
            rw [List.getElem?_eq_getElem hlt]
            simp only [decide_eq_false hsz, Bool.false_and]
          have HF := hid (nm_bad hlt hbad)
          rcases Nat.eq_zero_or_pos k with h0 | h0
          · subst h0
            rw [Nat.add_zero] at hc
            clear hsz hbad
            go_wp2
            go_ret
            exact ⟨ret_bool (by rw [HX.out, HF.out]), rfl⟩
          · obtain ⟨i, rfl⟩ : ∃ i, k = i + 1 := ⟨k - 1, by omega⟩
            clear hsz hbad
            go_wp2
            go_ret
            exact ⟨ret_bool (by rw [HX.out, HF.out]), rfl⟩
      · have HR := hid (nm_good (l := l) (fun j hj => HB.out j (by omega)))
        have g1 : (1 : Int) ≤ (l.length : Int) := by omega
        by_cases h20 : l.length ≤ 20
        · have e20 : (l.length : Int) ≤ 20 := by omega
          have HF := hid (show namesB l = true by rw [HR.out]; simp; omega)
          go_wp2
          go_ret
          exact ⟨ret_bool (by rw [HX.out, HF.out]), rfl⟩
        · have e20 : ¬ (l.length : Int) ≤ 20 := by omega
          have HF := hid (show namesB l = false by rw [HR.out]; simp; omega)
          go_wp2
          go_ret
          exact ⟨ret_bool (by rw [HX.out, HF.out]), rfl⟩
  · obtain rfl : l = [] := List.eq_nil_of_length_eq_zero (by omega)
    clear h
    have HF := hid (show namesB [] = false from rfl)
    go_enter Tryz.func72, Tryz.ntmps72
    go_wp2
    refine wp_loop_rounds 1 ?_
    rw [rounds_succ]
    go_wp2
    go_ret
    exact ⟨ret_bool (by rw [HX.out, HF.out]), rfl⟩
set_option maxHeartbeats 1000000 in
theorem rname_any (s : ByteArray) (w : World) (hs : s.size ≤ maxLen) : Calls Tryz.prog 55 #[.string s] w fun e w' => e = .returned (.bool (decide (s.size = 20))) ∧ w = w' := by
  unfold maxLen at hs
  by_cases h : s.size = 20
  · have e1 : ((s.size : Int) == 20) = true := by rw [beq_iff_eq]; omega
    rw [decide_eq_true h]
    clear h
    go_enter Tryz.func55, Tryz.ntmps55
    go_wp2
    go_ret
    exact ⟨rfl, rfl⟩
  · have e1 : ((s.size : Int) == 20) = false := by rw [beq_eq_false_iff_ne]; omega
    rw [decide_eq_false h]
    clear h
    go_enter Tryz.func55, Tryz.ntmps55
    go_wp2
    go_ret
    exact ⟨rfl, rfl⟩
end Go.Proofs.YtnflhjagmngimaaGreatDoor
