/-
  Several texts in one, in their build order. The walks of web.plain and web.escaped. Condition: the text is small. The walk of web.escaped. Condition: the text is small.
-/
import Derived.Test.YtnhgichiedninaaGreatDoorM27
import Derived.Test.YtnhgichiedninaaGreatDoorM4
import Derived.Test.YtnhgichiedninaaGreatDoorM40
import Derived.Laws.Rows
import Derived.Laws.Tables
import Derived.StillTailTactics
namespace Go.Proofs.YtnhgichiedninaaGreatDoor
set_option linter.unusedSimpArgs false
set_option linter.unusedVariables false
open Go.RowKit Go.Shelf

/-- The 256 answers. -/
def plainArr : Array Value := ((List.range 256).map fun c => Value.bool (plainB (UInt8.ofNat c))).toArray
theorem plainArr_size : plainArr.size = 256 := by simp [plainArr]
theorem plainArr_at (c : UInt8) : plainArr[c.toNat]? = some (.bool (plainB c)) := by
  have hc := c.toNat_lt
  unfold plainArr
  rw [List.getElem?_toArray, List.getElem?_map, List.getElem?_range hc]
  simp
theorem plainArr_one : plainArr.all (·.oneCell') = true := by
  rw [Array.all_eq_true_iff_forall_mem]
  intro v hv
  unfold plainArr at hv
  simp only [List.mem_toArray, List.mem_map] at hv
  obtain ⟨c, -, rfl⟩ := hv
  rfl
theorem plainArr_ext {cs : Array Value} (h : cs.size = 256) (ha : ∀ j, j < 256 → cs[j]? = some (.bool (plainB (UInt8.ofNat j)))) : cs = plainArr := by
  apply Array.ext_getElem?
  intro i
  by_cases hi : i < 256
  · rw [ha i hi]
    have := plainArr_at (UInt8.ofNat i)
    rw [UInt8.toNat_ofNat', Nat.mod_eq_of_lt hi] at this
    exact this.symm
  · rw [Array.getElem?_eq_none (by omega), Array.getElem?_eq_none (by rw [plainArr_size]; omega)]
theorem Mod.setRow {S : Nat → Prop} {a b : World} (h : Mod S a b) (g : Nat) (cs : Array Value) (hp : S g ∨ a.heap.size ≤ g) : Mod S a (b.setRow g cs) :=
  ⟨h.os, h.tape, h.output, by have := h.size; simpa using this, fun i hi hn => (setRow_other b g i cs (fun e => by subst e; rcases hp with hp | hp; exact hn hp; omega)).trans (h.block i hi hn)⟩
theorem Blk.setRow {w : World} {b : Nat} {old : Array Value} {t : TypeId} (h : Blk w b old t) (cs : Array Value) : Blk (w.setRow b cs) b cs t := setRow_heap w b old cs t (0, 0) h
theorem Blk.setRowOther {w : World} {b g : Nat} {old cs : Array Value} {t : TypeId} (h : Blk w b old t) (hg : b ≠ g) : Blk (w.setRow g cs) b old t := (setRow_other w g b cs hg).trans h
theorem info_arr : (Tryz.prog.info? 187).map (·.size) = some 256 := by kernel_rfl
theorem ofNat_nat {k : Nat} (h : k < 256) : (UInt8.ofNat k).toNat = k := by rw [UInt8.toNat_ofNat', Nat.mod_eq_of_lt h]
theorem idx_five (c : UInt8) : decide (0 ≤ Lib.indexByte [45, 46, 95, 126, 47] c) = (decide (c = 45) || decide (c = 46) || decide (c = 95) || decide (c = 126) || decide (c = 47)) := by
  have h : ∀ n : Nat, n < 256 → decide (0 ≤ Lib.indexByte [45, 46, 95, 126, 47] (UInt8.ofNat n)) = (decide (UInt8.ofNat n = 45) || decide (UInt8.ofNat n = 46) || decide (UInt8.ofNat n = 95) || decide (UInt8.ofNat n = 126) || decide (UInt8.ofNat n = 47)) := by decide +kernel
  have := h c.toNat c.toNat_lt
  rwa [UInt8.ofNat_toNat] at this
theorem plain_letter {k : Nat} (hk : k < 256) (h : (97 ≤ k ∧ k ≤ 122) ∨ (65 ≤ k ∧ k ≤ 90) ∨ (48 ≤ k ∧ k ≤ 57)) : true = plainB (UInt8.ofNat k) := by
  unfold plainB
  rw [ofNat_nat hk]
  rcases h with ⟨a, b⟩ | ⟨a, b⟩ | ⟨a, b⟩ <;> simp [a, b]
theorem plain_other {k : Nat} (hk : k < 256) (h1 : ¬ (97 ≤ k ∧ k ≤ 122)) (h2 : ¬ (65 ≤ k ∧ k ≤ 90)) (h3 : ¬ (48 ≤ k ∧ k ≤ 57)) : decide (0 ≤ Lib.indexByte [45, 46, 95, 126, 47] (UInt8.ofNat k)) = plainB (UInt8.ofNat k) := by
  have e1 : (decide (97 ≤ k) && decide (k ≤ 122)) = false := by rw [Bool.and_eq_false_iff, decide_eq_false_iff_not, decide_eq_false_iff_not]; omega
  have e2 : (decide (65 ≤ k) && decide (k ≤ 90)) = false := by rw [Bool.and_eq_false_iff, decide_eq_false_iff_not, decide_eq_false_iff_not]; omega
  have e3 : (decide (48 ≤ k) && decide (k ≤ 57)) = false := by rw [Bool.and_eq_false_iff, decide_eq_false_iff_not, decide_eq_false_iff_not]; omega
  rw [idx_five]
  unfold plainB
  rw [ofNat_nat hk, e1, e2, e3]
  simp only [Bool.false_or]
theorem next_at {cs : Array Value} {k : Nat} {v : Bool} {p : Nat → Bool} (h : ∀ j, j < k → cs[j]? = some (.bool (p j))) (hk : k < cs.size) (hv : v = p k) : ∀ j, j < k + 1 → (cs.setIfInBounds k (.bool v))[j]? = some (.bool (p j)) := by
  intro j hj
  rw [Array.getElem?_setIfInBounds]
  by_cases e : k = j
  · subst e
    rw [if_pos rfl, if_pos hk, hv]
  · rw [if_neg e]
    exact h j (by omega)
theorem idx_any (k : Nat) (w : World) : Calls Tryz.prog 154 #[.string ⟨#[45, 46, 95, 126, 47]⟩, .int .u8 (k : Int)] w fun e w' => e = .returned (.int .i64 (Lib.indexByte [45, 46, 95, 126, 47] (UInt8.ofNat k))) ∧ w = w' :=
  (Tryz.strings_IndexByte ⟨#[45, 46, 95, 126, 47]⟩ k w).mono fun e w' ⟨he, hw⟩ => ⟨he, hw.symm⟩
set_option maxRecDepth 100000 in
set_option maxHeartbeats 4000000 in
theorem plain_any (w : World) : Calls Tryz.prog 131 #[] w fun e w' => e = .returned (.agg plainArr) ∧ New w w' := by
  go_enter Tryz.func131, Tryz.ntmps131
  go_wp2
  go_loopw [4] (fun x wr => ∃ (k : Nat) (cs z : Array Value), x = .int .i64 k ∧ k ≤ 256 ∧ cs.size = 256 ∧ z.size = 256 ∧ (∀ j, j < k → cs[j]? = some (.bool (plainB (UInt8.ofNat j)))) ∧ Blk wr w.heap.size z 187 ∧ Blk wr (w.heap.size + 1) cs 187 ∧ New w wr) (fun x _ => 256 - (intOf x).toNat)
  case atStart => exact ⟨0, _, _, rfl, by omega, by rfl, by rfl, by omega, (Blk.new w _ _).alloc _, Blk.newAt (by simp), ((Mod.refl _ _).alloc _).alloc _⟩
  case round =>
    obtain ⟨k, cs, z, rfl, hk, hcs, hz, hat, hb0, hb1, hn⟩ := hrel
    have HAT := hid hat; have HB0 := hid hb0; have HB1 := hid hb1; have HN := hid hn; have HCS := hid hcs; have HZ := hid hz
    clear hat hb0 hb1 hn hcs hz
    by_cases hlt : k < 256
    · have hltI : (k : Int) < 256 := by omega
      have hcell : wr.cell? ⟨w.heap.size + 1, k, none⟩ = some (cs[k]'(by rw [HCS.out]; exact hlt)) := by rw [HB1.out.cell]; exact Array.getElem?_eq_getElem _
      obtain ⟨c0, hc0⟩ : ∃ c0, c0 = (cs[k]'(by rw [HCS.out]; exact hlt)) := ⟨_, rfl⟩
      rw [← hc0] at hcell
      have hfz := HB1.out.frz k
      have hbl := HB1.out.lt
      clear hc0
      by_cases g1 : 123 ≤ k
      · have g1I : (123 : Int) ≤ (k : Int) := by omega
        have f1 : decide ((k : Int) ≤ 122) = false := decide_eq_false (by omega)
        have f2 : decide ((k : Int) ≤ 90) = false := decide_eq_false (by omega)
        have f3 : decide ((k : Int) ≤ 57) = false := decide_eq_false (by omega)
        have HV : Hid (decide (0 ≤ Lib.indexByte [45, 46, 95, 126, 47] (UInt8.ofNat k)) = plainB (UInt8.ofNat k)) := hid (plain_other hlt (by omega) (by omega) (by omega))
        have HIX := hid (fun w => idx_any k w)
        obtain ⟨V, hV⟩ : ∃ V, V = Lib.indexByte [45, 46, 95, 126, 47] (UInt8.ofNat k) := ⟨_, rfl⟩
        rw [← hV] at HV HIX
        clear hV
        go_wp2_with fail
        refine (HIX.out _).mono ?_
        rintro e w1 ⟨rfl, rfl⟩
        go_wp2
        exact ⟨⟨k + 1, cs.setIfInBounds k (.bool (decide (0 ≤ V))), z, by simp, by omega, by simp [HCS.out], HZ.out, next_at HAT.out (by rw [HCS.out]; exact hlt) (HV.out), HB0.out.other (by simp), HB1.out.set k _, HN.out.set _ _ (.inr (by simp))⟩, by simp [intOf]; omega⟩
      by_cases g2 : 97 ≤ k
      · have g2I : (97 : Int) ≤ (k : Int) := by omega
        have g1I : (k : Int) ≤ 122 := by omega
        go_wp2
        exact ⟨⟨k + 1, cs.setIfInBounds k (.bool true), z, by simp, by omega, by simp [HCS.out], HZ.out, next_at HAT.out (by rw [HCS.out]; exact hlt) (plain_letter hlt (.inl ⟨by omega, by omega⟩)), HB0.out.other (by simp), HB1.out.set k _, HN.out.set _ _ (.inr (by simp))⟩, by simp [intOf]; omega⟩
      have g2I : (k : Int) < 97 := by omega
      by_cases g3 : 91 ≤ k
      · have g3I : (91 : Int) ≤ (k : Int) := by omega
        have f2 : decide ((k : Int) ≤ 90) = false := decide_eq_false (by omega)
        have f3 : decide ((k : Int) ≤ 57) = false := decide_eq_false (by omega)
        have HV : Hid (decide (0 ≤ Lib.indexByte [45, 46, 95, 126, 47] (UInt8.ofNat k)) = plainB (UInt8.ofNat k)) := hid (plain_other hlt (by omega) (by omega) (by omega))
        have HIX := hid (fun w => idx_any k w)
        obtain ⟨V, hV⟩ : ∃ V, V = Lib.indexByte [45, 46, 95, 126, 47] (UInt8.ofNat k) := ⟨_, rfl⟩
        rw [← hV] at HV HIX
        clear hV
        go_wp2_with fail
        refine (HIX.out _).mono ?_
        rintro e w1 ⟨rfl, rfl⟩
        go_wp2
        exact ⟨⟨k + 1, cs.setIfInBounds k (.bool (decide (0 ≤ V))), z, by simp, by omega, by simp [HCS.out], HZ.out, next_at HAT.out (by rw [HCS.out]; exact hlt) (HV.out), HB0.out.other (by simp), HB1.out.set k _, HN.out.set _ _ (.inr (by simp))⟩, by simp [intOf]; omega⟩
      by_cases g4 : 65 ≤ k
      · have g4I : (65 : Int) ≤ (k : Int) := by omega
        have g3I : (k : Int) ≤ 90 := by omega
        go_wp2
        exact ⟨⟨k + 1, cs.setIfInBounds k (.bool true), z, by simp, by omega, by simp [HCS.out], HZ.out, next_at HAT.out (by rw [HCS.out]; exact hlt) (plain_letter hlt (.inr (.inl ⟨by omega, by omega⟩))), HB0.out.other (by simp), HB1.out.set k _, HN.out.set _ _ (.inr (by simp))⟩, by simp [intOf]; omega⟩
      have g4I : (k : Int) < 65 := by omega
      by_cases g5 : 58 ≤ k
      · have g5I : (58 : Int) ≤ (k : Int) := by omega
        have f3 : decide ((k : Int) ≤ 57) = false := decide_eq_false (by omega)
        have HV : Hid (decide (0 ≤ Lib.indexByte [45, 46, 95, 126, 47] (UInt8.ofNat k)) = plainB (UInt8.ofNat k)) := hid (plain_other hlt (by omega) (by omega) (by omega))
        have HIX := hid (fun w => idx_any k w)
        obtain ⟨V, hV⟩ : ∃ V, V = Lib.indexByte [45, 46, 95, 126, 47] (UInt8.ofNat k) := ⟨_, rfl⟩
        rw [← hV] at HV HIX
        clear hV
        go_wp2_with fail
        refine (HIX.out _).mono ?_
        rintro e w1 ⟨rfl, rfl⟩
        go_wp2
        exact ⟨⟨k + 1, cs.setIfInBounds k (.bool (decide (0 ≤ V))), z, by simp, by omega, by simp [HCS.out], HZ.out, next_at HAT.out (by rw [HCS.out]; exact hlt) (HV.out), HB0.out.other (by simp), HB1.out.set k _, HN.out.set _ _ (.inr (by simp))⟩, by simp [intOf]; omega⟩
      by_cases g6 : 48 ≤ k
      · have g6I : (48 : Int) ≤ (k : Int) := by omega
        have g5I : (k : Int) ≤ 57 := by omega
        go_wp2
        exact ⟨⟨k + 1, cs.setIfInBounds k (.bool true), z, by simp, by omega, by simp [HCS.out], HZ.out, next_at HAT.out (by rw [HCS.out]; exact hlt) (plain_letter hlt (.inr (.inr ⟨by omega, by omega⟩))), HB0.out.other (by simp), HB1.out.set k _, HN.out.set _ _ (.inr (by simp))⟩, by simp [intOf]; omega⟩
      · have g6I : (k : Int) < 48 := by omega
        have HV : Hid (decide (0 ≤ Lib.indexByte [45, 46, 95, 126, 47] (UInt8.ofNat k)) = plainB (UInt8.ofNat k)) := hid (plain_other hlt (by omega) (by omega) (by omega))
        have HIX := hid (fun w => idx_any k w)
        obtain ⟨V, hV⟩ : ∃ V, V = Lib.indexByte [45, 46, 95, 126, 47] (UInt8.ofNat k) := ⟨_, rfl⟩
        rw [← hV] at HV HIX
        clear hV
        go_wp2_with fail
        refine (HIX.out _).mono ?_
        rintro e w1 ⟨rfl, rfl⟩
        go_wp2
        exact ⟨⟨k + 1, cs.setIfInBounds k (.bool (decide (0 ≤ V))), z, by simp, by omega, by simp [HCS.out], HZ.out, next_at HAT.out (by rw [HCS.out]; exact hlt) (HV.out), HB0.out.other (by simp), HB1.out.set k _, HN.out.set _ _ (.inr (by simp))⟩, by simp [intOf]; omega⟩
    · obtain rfl : k = 256 := by omega
      have e := plainArr_ext HCS.out HAT.out
      subst e
      go_wp2_with (first | (refine wpList_load_row (o := ⟨some 39, _, _, _, _, _⟩) rfl _ _ rfl (w.heap.size + 1) rfl _ _ _ _ HB1.out Tryz.underlying187 rfl ?hi1 ?_) | (refine wpList_store_row (o := ⟨none, _, _, _, _, _⟩) rfl _ _ _ rfl w.heap.size plainArr rfl rfl _ _ HB0.out ?hi2 ?hi3 ?hi4 ?_))
      case hi1 => rw [plainArr_size]; exact info_arr
      case hi2 => rw [plainArr_size]; exact info_arr
      case hi3 => rw [HZ.out, plainArr_size]
      case hi4 => exact plainArr_one
      refine bodyPost_ret (v := .agg plainArr) ?_ rfl ⟨rfl, HN.out.setRow _ _ (.inr (Nat.le_refl _))⟩
      exact results_cell_row rfl _ _ w.heap.size _ plainArr (0, 0) _ rfl (HB0.out.setRow plainArr) Tryz.underlying187 rfl (by rw [plainArr_size]; exact info_arr)
end Go.Proofs.YtnhgichiedninaaGreatDoor

namespace Go.Proofs.YtnhgichiedninaaGreatDoor
set_option linter.unusedSimpArgs false
set_option linter.unusedVariables false
open Go.RowKit Go.Shelf

theorem byte_at2 (t : ByteArray) {k : Nat} (h : k < t.size) : t.data.toList[k]'(by rw [Array.length_toList]; exact h) = t[k] := rfl
theorem and_low (c : UInt8) : bits .and .u8 (c.toNat : Int) 15 = ((c.toNat % 16 : Nat) : Int) := by
  have h : ∀ n : Nat, n < 256 → bits .and .u8 (n : Int) 15 = ((n % 16 : Nat) : Int) := by decide +kernel
  exact h _ c.toNat_lt
def hexStr : ByteArray := ⟨#[48, 49, 50, 51, 52, 53, 54, 55, 56, 57, 65, 66, 67, 68, 69, 70]⟩
theorem hex_cut {n : Nat} (h : n < 16) : hexStr.extract n (n + 1) = ⟨#[hexD n]⟩ := by
  have h : ∀ n : Nat, n < 16 → (hexStr.extract n (n + 1)).data.toList = [hexD n] := by decide +kernel
  have := h n (by assumption)
  apply ByteArray.ext
  apply Array.toList_inj.1
  rw [this]
set_option maxRecDepth 100000 in
set_option maxHeartbeats 4000000 in
theorem escaped_any (s : ByteArray) (w : World) (hs : s.size ≤ 4000000) : Calls Tryz.prog 89 #[.string s] w fun e w' => e = .returned (.string ⟨(escOf s.data.toList).toArray⟩) ∧ New w w' := by
  have HP := hid (plain_any w)
  obtain ⟨X, hX⟩ : ∃ X, X = escOf s.data.toList := ⟨_, rfl⟩
  rw [← hX]
  have HX := hid hX
  have hlen : s.data.toList.length = s.size := by rw [Array.length_toList]; rfl
  clear hX
  go_enter Tryz.func89, Tryz.ntmps89
  go_wp2_with fail
  refine HP.out.mono ?_
  rintro e w1 ⟨rfl, n1⟩
  have N1 := hid n1
  clear n1
  go_wp2_with (refine wpList_store_row (o := ⟨none, _, _, _, _, _⟩) rfl _ _ _ rfl w1.heap.size plainArr rfl rfl _ _ (Blk.new w1 _ _) ?hi2 ?hi3 ?hi4 ?_)
  case hi2 => rw [plainArr_size]; exact info_arr
  case hi3 => rw [plainArr_size]; kernel_rfl
  case hi4 => exact plainArr_one
  have HB1 := hid ((Blk.new w1 Tryz.zeroCells187 187).setRow plainArr)
  have HN := hid ((N1.out.alloc (.cells Tryz.zeroCells187 187)).setRow w1.heap.size plainArr (.inr N1.out.size))
  obtain ⟨w2, hw2⟩ : ∃ w2, w2 = (w1.alloc (.cells Tryz.zeroCells187 187)).setRow w1.heap.size plainArr := ⟨_, rfl⟩
  have hz2 : w2.heap.size = w1.heap.size + 1 := by rw [hw2]; simp
  rw [← hw2] at HB1 HN
  rw [← hw2]
  obtain ⟨b1, hb1⟩ : ∃ b1, b1 = w1.heap.size := ⟨_, rfl⟩
  have HWB := hid (show w.heap.size ≤ b1 by rw [hb1]; exact N1.out.size)
  rw [← hb1] at HB1 hz2
  rw [← hb1]
  have HZ2 := hid hz2
  have HFR := hid (Bld.freshAt (w := w2) (b := b1 + 1) hz2.symm)
  clear hw2 hb1 hz2 N1
  go_loopw [9] (fun x wr => ∃ (k : Nat), x = .int .i64 k ∧ k ≤ s.size ∧ Bld wr (b1 + 1) (escOf (s.data.toList.take k)) ∧ Blk wr b1 plainArr 187 ∧ New w wr) (fun x _ => s.size - (intOf x).toNat)
  case atStart => exact ⟨0, rfl, by omega, by rw [List.take_zero]; exact HFR.out, HB1.out.alloc _, HN.out.alloc _⟩
  case round =>
    clear HFR HB1 HN
    obtain ⟨k, rfl, hk, hbl, hb1, hn⟩ := hrel
    have HBL := hid hbl; have HB1 := hid hb1; have HN := hid hn
    by_cases hlt : k < s.size
    · have hltI : (k : Int) < (s.size : Int) := by omega
      have hb := byte_at2 s hlt
      have HNX := hid (escOf_next (l := s.data.toList) (k := k) (by omega))
      have hacc := escOf_len (s.data.toList.take k)
      rw [List.length_take] at hacc
      obtain ⟨acc, hac⟩ : ∃ acc, acc = escOf (s.data.toList.take k) := ⟨_, rfl⟩
      rw [← hac, hb] at HNX
      rw [← hac] at HBL hacc
      obtain ⟨c, hc⟩ : ∃ c, c = s[k] := ⟨_, rfl⟩
      have hcell : wr.cell? ⟨b1, c.toNat, none⟩ = some (.bool (plainB c)) := by rw [hb1.cell]; exact plainArr_at c
      have hcI : (c.toNat : Int) < 256 := by have := c.toNat_lt; omega
      have hbw := hb1.lt
      have HC := hid hc
      clear hbl hb1 hn hac hb
      cases hp : plainB c with
      | true =>
        rw [hp] at hcell
        have hp' := hp
        rw [hc] at hcell hcI hp'
        rw [escB, hp', if_pos rfl] at HNX
        clear hp hp'
        go_wp2_with fail
        refine (byte_any (b1 + 1) acc s[k] _ HBL.out (by omega)).mono ?_
        rintro e w4 ⟨rfl, b4, n4⟩
        have B4 := hid b4
        have N4 := hid n4
        clear b4 n4
        go_wp2
        exact ⟨⟨k + 1, by simp, by omega, by rw [HNX.out]; exact B4.out, N4.out.blk HB1.out (by omega) (by decide), Wrote.new HN.out N4.out (by have := HWB.out; omega)⟩, by simp [intOf]; omega⟩
      | false =>
        rw [hp] at hcell
        have hp' := hp
        rw [hc] at hcell hcI hp'
        rw [escB, hp', if_neg (by decide)] at HNX
        clear hp hp'
        have eL := and_low s[k]
        obtain ⟨H, hH⟩ : ∃ H : Nat, H = s[k].toNat / 16 := ⟨_, rfl⟩
        obtain ⟨L, hL⟩ : ∃ L : Nat, L = s[k].toNat % 16 := ⟨_, rfl⟩
        have eH : (s[k].toNat : Int) / 16 = (H : Int) := by rw [hH]; rfl
        rw [← hL] at eL
        have hH16 : H < 16 := by have := s[k].toNat_lt; omega
        have hL16 : L < 16 := by omega
        rw [← hH, ← hL] at HNX
        have cH := hex_cut hH16; have cL := hex_cut hL16
        unfold hexStr at cH cL
        have iH : (H : Int) < 16 := by omega
        have iL : (L : Int) < 16 := by omega
        have wH : IntKind.u8.wrap ((H : Int) + 1) = (H : Int) + 1 := IntWalk.u8_in _ (by omega)
        have wL : IntKind.u8.wrap ((L : Int) + 1) = (L : Int) + 1 := IntWalk.u8_in _ (by omega)
        have nH : ((H : Int) + 1).toNat = H + 1 := by omega
        have nL : ((L : Int) + 1).toNat = L + 1 := by omega
        have pH : (H : Int) + 1 ≤ 16 := by omega
        have pL : (L : Int) + 1 ≤ 16 := by omega
        have a1 : ∀ w, (Op.stringOp .add ⟨#[37]⟩ ⟨#[hexD H]⟩).run Tryz.prog w = .ok (.string ⟨#[37, hexD H]⟩) w := fun w => run_string_add_sum (w := w) _ _ (by show 1 + 1 ≤ _; omega)
        have a2 : ∀ w, (Op.stringOp .add ⟨#[37, hexD H]⟩ ⟨#[hexD L]⟩).run Tryz.prog w = .ok (.string ⟨#[37, hexD H, hexD L]⟩) w := fun w => run_string_add_sum (w := w) _ _ (by show 2 + 1 ≤ _; omega)
        have k1 : H + 1 ≤ 16 := hH16
        have k2 : L + 1 ≤ 16 := hL16
        have k3 : H ≤ H + 1 := by omega
        have k4 : L ≤ L + 1 := by omega
        have k5 : (H : Int) ≤ (H : Int) + 1 := by omega
        have k6 : (L : Int) ≤ (L : Int) + 1 := by omega
        clear hH hL
        go_wp2
        go_still_tail 22, (by kernel_rfl)
        clear cH cL wH wL a1 a2 eH eL nH nL
        go_wp2_with (go_at_call 99; refine (write_any (b1 + 1) acc ⟨#[37, hexD H, hexD L]⟩ _ (HBL.out.new (Mod.refl _ _).drew) (by show acc.length + 3 ≤ _; omega)).mono ?_; rintro e w4 ⟨rfl, b4, n4⟩; have B4 := hid b4; have N4 := hid n4; clear b4 n4)
        exact ⟨⟨k + 1, by simp, by omega, by rw [HNX.out]; exact B4.out, N4.out.blk HB1.out.drew (by omega) (by decide), Wrote.new HN.out.drew N4.out (by have := HWB.out; omega)⟩, by simp [intOf]; omega⟩
    · have hjl : s.data.toList.take k = s.data.toList := List.take_of_length_le (by omega)
      rw [hjl, ← HX.out] at HBL
      clear hjl hbl hb1 hn
      go_wp2_with fail
      refine (string_any _ _ _ HBL.out).mono ?_
      rintro e w4 ⟨rfl, -, n4⟩
      have N4 := hid n4
      clear n4
      go_wp2
      go_ret
      exact ⟨rfl, Wrote.new HN.out N4.out (by have := HWB.out; omega)⟩
end Go.Proofs.YtnhgichiedninaaGreatDoor
