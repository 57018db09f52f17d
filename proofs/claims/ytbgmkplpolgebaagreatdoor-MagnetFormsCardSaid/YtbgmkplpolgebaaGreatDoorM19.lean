/-
  Several texts in one, in their build order. The walk of Decimal (the reference): the decimal text of a number. Condition: an int. The library's ParseUint at base 10 and 16, of numbers below 2 to the 31st. Conditions: the text is small; the library's errors are as laid. The library's variables; its Itoa and FormatUint. Conditions: the variables are as laid.
-/
import Derived.Test.YtbgmkplpolgebaaGreatDoorM2
import Derived.Laws.BytesArg
import Derived.Test.YtbgmkplpolgebaaGreatDoorM10
import Derived.Test.YtbgmkplpolgebaaGreatDoorM5
import Derived.Test.YtbgmkplpolgebaaGreatDoorM13
import Derived.Test.YtbgmkplpolgebaaGreatDoorM3
import Derived.Lib.ItoaMem
namespace Go.Proofs.YtbgmkplpolgebaaGreatDoor
set_option linter.unusedSimpArgs false
set_option linter.unusedVariables false
open Go.RowKit

theorem itoa_one {m : Nat} (h : m < 10) : itoaB (m : Int) = ⟨#[UInt8.ofNat (48 + m)]⟩ := by
  unfold itoaB Lib.itoa
  rw [if_neg (by omega), Lib.decDigits, dif_pos (by simpa using h)]
  simp
theorem itoa_more {m : Nat} (h : ¬ m < 10) : itoaB (m : Int) = itoaB ((m / 10 : Nat) : Int) ++ ⟨#[UInt8.ofNat (48 + m % 10)]⟩ := by
  apply bytes_ext
  unfold itoaB Lib.itoa
  rw [if_neg (by omega), Lib.decDigits, dif_neg (by simpa using h), if_neg (by omega)]
  have : ((m / 10 : Nat) : Int).toNat = m / 10 := Int.toNat_natCast _
  rw [this]
  simp

theorem itoa_size {n : Int} (h0 : -9223372036854775808 ≤ n) (h1 : n ≤ 9223372036854775807) : (itoaB n).size ≤ 21 := by
  have := Lib.itoa_length_le n h0 h1
  show (Lib.itoa n).toArray.size ≤ 21
  simpa using this
theorem ret_str {a b : ByteArray} (h : a = b) : Ending.returned (.string a) = .returned (.string b) := by rw [h]
theorem one_byte (w : World) (v : Int) : (convert 42 9 (.slice (some ⟨w.heap.size, 0, none⟩) 1 1)).run Tryz.prog (w.alloc (.cells #[.int .u8 v] 5)) = .ok (.string ⟨#[UInt8.ofNat v.toNat]⟩) (w.alloc (.cells #[.int .u8 v] 5)) := by
  have := run_convert_bytes_arg (P := Tryz.prog) (w.alloc (.cells #[.int .u8 v] 5)) 42 5 Tryz.underlying42 Tryz.underlying5 w.heap.size 0 1 1 [v] rfl (fun i hi => by
    obtain rfl : i = 0 := by omega
    exact (Blk.new w #[.int .u8 v] 5).cellv 0 rfl) 9 Tryz.underlying9
  rw [this]
  rfl

set_option maxRecDepth 100000 in
set_option maxHeartbeats 1000000 in
theorem decimal_nat (m : Nat) : (m : Int) ≤ 9223372036854775807 → ∀ w : World, Calls Tryz.prog 121 #[.int .i64 m] w fun e w' => e = .returned (.string (itoaB m)) ∧ New w w' := by
  induction m using Nat.strongRecOn with
  | ind m ih =>
    intro hm w
    have hcv := one_byte w (48 + (m : Int) % 10)
    have h48 : (48 + (m : Int) % 10).toNat = 48 + m % 10 := by omega
    by_cases h : m < 10
    · have HI := hid (itoa_one h)
      have hmm : m % 10 = m := by omega
      have HM := hid (And.intro h48 hmm)
      clear ih h48 hmm
      go_enter Tryz.func121, Tryz.ntmps121
      go_wp2
      go_ret
      exact ⟨ret_str (by rw [HI.out, HM.out.2]), (Mod.refl _ _).alloc _⟩
    · have e10 : ((m / 10 : Nat) : Int) = (m : Int) / 10 := by omega
      have HI := hid (itoa_more h)
      have HM := hid h48
      have IH := hid (ih (m / 10) (by omega) (by omega))
      rw [e10] at HI IH
      have hs1 := itoa_size (n := (m : Int) / 10) (by omega) (by omega)
      have hs2 : (⟨#[48 + UInt8.ofNat (m % 10)]⟩ : ByteArray).size = 1 := rfl
      clear ih h48 e10
      go_enter Tryz.func121, Tryz.ntmps121
      go_wp2_with (go_at_call 121; refine (IH.out _).mono ?_; rintro e w1 ⟨rfl, h1⟩; have H1 := hid h1; clear h1)
      go_ret
      exact ⟨ret_str (by rw [HI.out]; simp), ((Mod.refl _ _).alloc _).trans H1.out⟩

end Go.Proofs.YtbgmkplpolgebaaGreatDoor

namespace Go.Proofs.YtbgmkplpolgebaaGreatDoor
set_option linter.unusedSimpArgs false
set_option linter.unusedVariables false
open Go.RowKit Go.Shelf

theorem lower_any (c : Int) (w : World) : Calls Tryz.prog 199 #[.int .u8 c] w fun e w' => e = .returned (.int .u8 (bits .or .u8 c 32)) ∧ w = w' := by
  go_enter Tryz.func199, Tryz.ntmps199
  go_wp2
  go_ret
  exact ⟨rfl, rfl⟩
/-- What lower makes of a byte that is no decimal digit. -/
theorem lower_byte (c : UInt8) (h : isDig c = false) : ∃ l : Nat, bits .or .u8 (c.toNat : Int) 32 = (l : Int) ∧ l ≤ 255 ∧ (97 ≤ l ∧ l ≤ 102 → hexN c = some (l - 87)) ∧ (¬ (97 ≤ l ∧ l ≤ 102) → hexN c = none) := by
  have key : ∀ n : Nat, n < 256 → isDig (UInt8.ofNat n) = false → bits .or .u8 (n : Int) 32 = ((n ||| 32 : Nat) : Int) ∧ (n ||| 32) ≤ 255 ∧ (97 ≤ (n ||| 32) ∧ (n ||| 32) ≤ 102 → hexN (UInt8.ofNat n) = some ((n ||| 32) - 87)) ∧ (¬ (97 ≤ (n ||| 32) ∧ (n ||| 32) ≤ 102) → hexN (UInt8.ofNat n) = none) := by decide +kernel
  have h2 := key c.toNat c.toNat_lt
  rw [UInt8.ofNat_toNat] at h2
  exact ⟨_, h2 h⟩
def numErr (k : Int) : Value := .iface 219 (.int .i64 k)
/-- What is told: the number, or an error. -/
def PuTold (r : Option Nat) (e : Ending) : Prop := ∃ (x : Int) (E : Value), e = .returned (.tuple #[.int .u64 x, E]) ∧ 0 ≤ x ∧ x ≤ 2147483647 ∧ ((∃ u : Nat, r = some u ∧ x = u ∧ E = .nilIface) ∨ (r = none ∧ (E = numErr 1 ∨ E = numErr 2)))
theorem PuTold.yes {r : Option Nat} {u : Nat} (h : r = some u) (hu : u ≤ 2147483647) : PuTold r (.returned (.tuple #[.int .u64 (u : Int), .nilIface])) := ⟨_, _, rfl, by omega, by omega, .inl ⟨u, h, rfl, rfl⟩⟩
theorem PuTold.no {r : Option Nat} {x : Int} {E : Value} (h : r = none) (h0 : 0 ≤ x) (h1 : x ≤ 2147483647) (hE : E = numErr 1 ∨ E = numErr 2) : PuTold r (.returned (.tuple #[.int .u64 x, E])) := ⟨_, _, rfl, h0, h1, .inr ⟨h, hE⟩⟩
theorem puA_stop {b a : Nat} {c : UInt8} {r : List UInt8} (h : digN b c = none) : puA b a (c :: r) = none := by simp only [puA, h]
theorem puA_over {b a d : Nat} {c : UInt8} {r : List UInt8} (h : digN b c = some d) (h2 : 2147483647 < a * b + d) : puA b a (c :: r) = none := by simp only [puA, h]; rw [if_pos h2]
theorem puA_on {b a d : Nat} {c : UInt8} {r : List UInt8} (h : digN b c = some d) (h2 : ¬ 2147483647 < a * b + d) : puA b a (c :: r) = puA b (a * b + d) r := by simp only [puA, h]; rw [if_neg h2]
set_option maxRecDepth 100000 in
set_option maxHeartbeats 32000000 in
theorem pu_empty (b : Int) (w : World) : Calls Tryz.prog 189 #[.string ⟨#[]⟩, .int .i64 b, .int .i64 31] w fun e w' => e = .returned (.tuple #[.int .u64 0, numErr 2]) ∧ w = w' := by
  go_enter Tryz.func189, Tryz.ntmps189
  go_wp2
  go_ret2
  exact ⟨rfl, rfl⟩
set_option maxRecDepth 100000 in
set_option maxHeartbeats 32000000 in
theorem pu_ten (t : ByteArray) (w : World) (hs : t.size ≤ 70000) : Calls Tryz.prog 189 #[.string t, .int .i64 10, .int .i64 31] w fun e w' => PuTold (puP 10 t.data.toList) e ∧ New w w' := by
  obtain ⟨V, hV⟩ : ∃ V, V = puP 10 t.data.toList := ⟨_, rfl⟩
  rw [← hV]
  have hlen : t.data.toList.length = t.size := by rw [Array.length_toList]; rfl
  by_cases hz : t.size = 0
  · have h0 : t.data.toList = [] := List.eq_nil_of_length_eq_zero (by omega)
    have ht : t = ⟨#[]⟩ := bytes_ext h0
    rw [h0] at hV
    subst ht
    refine (pu_empty 10 w).mono ?_
    rintro e w' ⟨rfl, rfl⟩
    exact ⟨PuTold.no hV (by omega) (by omega) (.inr rfl), Mod.refl _ _⟩
  have hne : t.data.toList ≠ [] := fun q => hz (by rw [← hlen, q]; rfl)
  unfold puP at hV
  rw [if_neg hne] at hV
  have hemp : t.toList.isEmpty = false := by
    rw [← decide_eq_emptyBytes]
    exact decide_eq_false (fun h => hz (by rw [h]; rfl))
  have hcv := bytes_of w t
  have hB := bytes_lie w t rfl
  have hNW := bytes_new w t
  obtain ⟨cap, hcap⟩ : ∃ cap, cap = grownCap w t.size 0 5 := ⟨_, rfl⟩
  rw [← hcap] at hcv
  obtain ⟨W1, hW1⟩ : ∃ W1, W1 = afterBytes w t := ⟨_, rfl⟩
  rw [← hW1] at hcv hB hNW
  have HBY := hid hB
  have HN := hid hNW
  obtain ⟨bs, hL⟩ : ∃ bs, bs = t.data.toList := ⟨_, rfl⟩
  rw [← hL] at HBY hV hlen
  have HV := hid hV
  have hmv : IntKind.u64.wrap (IntKind.u64.wrap 2147483648 - 1) = 2147483647 := by
    rw [IntKind.wrap_u64, IntKind.wrap_u64]
    decide
  clear hW1 hL hV hB hNW hne hcap
  go_enter Tryz.func189, Tryz.ntmps189
  go_wp2
  go_loop [12, 13, 101] (fun vu vn vi => ∃ (k acc : Nat) (a : Int), vu = .bool false ∧ vn = .int .u64 a ∧ vi = .int .i64 k ∧ k ≤ t.size ∧ Hid (a = (acc : Int) ∧ acc ≤ 2147483647 ∧ V = puA 10 acc (bs.drop k))) (fun _ _ vi => t.size - (intOf vi).toNat)
  case atStart => exact ⟨0, 0, 0, rfl, rfl, rfl, by omega, hid ⟨rfl, by omega, HV.out⟩⟩
  case round =>
    obtain ⟨k, acc, a, rfl, rfl, rfl, hk, hh⟩ := hrel
    obtain ⟨ha, hacc, hdec⟩ := hh.out
    clear hh HV
    have a0 : 0 ≤ a := by omega
    have a1 : a ≤ 2147483647 := by omega
    by_cases hkn : k < t.size
    · have hc := HBY.out.cell (i := k) (by omega)
      have hdrop : bs.drop k = bs[k]'(by omega) :: bs.drop (k + 1) := List.drop_eq_getElem_cons (by omega)
      rw [hdrop] at hdec
      generalize bs[k]'(by omega) = c at hc hdec
      have hc256 : c.toNat < 256 := c.toNat_lt
      clear hdrop
      cases hdig : isDig c with
      | true =>
        have hd2 := hdig
        simp only [isDig, Bool.and_eq_true, decide_eq_true_eq] at hd2
        obtain ⟨hd0, hd1⟩ := hd2
        have hdn : digN 10 c = some (c.toNat - 48) := by unfold digN hexN; simp [hdig, hd0, hd1]
        by_cases hov : 2147483647 < acc * 10 + (c.toNat - 48)
        · have hF : Hid (V = none) := hid (by rw [hdec]; exact puA_over hdn hov)
          have iov : 2147483647 < a * 10 + ((c.toNat : Int) - 48) := by omega
          clear hov ha hacc hdec hdn hdig
          go_wp2
          go_ret2
          exact ⟨PuTold.no hF.out (by omega) (by omega) (.inl rfl), HN.out⟩
        · have HNX : Hid (a * 10 + ((c.toNat : Int) - 48) = ((acc * 10 + (c.toNat - 48) : Nat) : Int) ∧ acc * 10 + (c.toNat - 48) ≤ 2147483647 ∧ V = puA 10 (acc * 10 + (c.toNat - 48)) (bs.drop (k + 1))) := hid ⟨by omega, by omega, by rw [hdec]; exact puA_on hdn hov⟩
          have iov : a * 10 + ((c.toNat : Int) - 48) ≤ 2147483647 := by omega
          clear hov ha hacc hdec hdn hdig
          go_wp2
          refine ⟨⟨k + 1, acc * 10 + (c.toNat - 48), a * 10 + ((c.toNat : Int) - 48), rfl, (by first | rfl | (congr 1; omega)), (by first | rfl | (congr 1; omega)), by omega, HNX⟩, by simp [intOf]; omega⟩
      | false =>
        have hd2 := hdig
        simp only [isDig, Bool.and_eq_false_iff, decide_eq_false_iff_not] at hd2
        have hno : ¬ (48 ≤ c.toNat ∧ c.toNat ≤ 57) := by omega
        obtain ⟨l, hl, hl1, hl2, hl3⟩ := lower_byte c hdig
        have hu : bits .or .u8 95 32 = 127 := by decide +kernel
        (have hF : Hid (V = none) := hid (by rw [hdec]; exact puA_stop (by unfold digN; rw [if_neg (by decide), if_neg (by rw [hdig]; decide)])); clear hdec hacc ha hdig hl2 hl3 hd2; (go_wp2_with (go_at_call 199; refine (lower_any _ _).mono ?_; rintro e w' ⟨rfl, rfl⟩; (try rw [hl]); (try rw [hu]))); all_goals (go_ret2; exact ⟨PuTold.no hF.out (by omega) (by omega) (.inr rfl), HN.out⟩))
    · obtain rfl : k = t.size := by omega
      have hF : Hid (V = some acc) := hid (by rw [hdec, List.drop_eq_nil_of_le (by omega)]; rfl)
      subst ha
      have HA := hid hacc
      clear hdec hacc
      go_wp2
      go_ret2
      exact ⟨PuTold.yes hF.out HA.out, HN.out⟩
set_option maxRecDepth 100000 in
set_option maxHeartbeats 32000000 in
theorem pu_hex (t : ByteArray) (w : World) (hs : t.size ≤ 70000) : Calls Tryz.prog 189 #[.string t, .int .i64 16, .int .i64 31] w fun e w' => PuTold (puP 16 t.data.toList) e ∧ New w w' := by
  obtain ⟨V, hV⟩ : ∃ V, V = puP 16 t.data.toList := ⟨_, rfl⟩
  rw [← hV]
  have hlen : t.data.toList.length = t.size := by rw [Array.length_toList]; rfl
  by_cases hz : t.size = 0
  · have h0 : t.data.toList = [] := List.eq_nil_of_length_eq_zero (by omega)
    have ht : t = ⟨#[]⟩ := bytes_ext h0
    rw [h0] at hV
    subst ht
    refine (pu_empty 16 w).mono ?_
    rintro e w' ⟨rfl, rfl⟩
    exact ⟨PuTold.no hV (by omega) (by omega) (.inr rfl), Mod.refl _ _⟩
  have hne : t.data.toList ≠ [] := fun q => hz (by rw [← hlen, q]; rfl)
  unfold puP at hV
  rw [if_neg hne] at hV
  have hemp : t.toList.isEmpty = false := by
    rw [← decide_eq_emptyBytes]
    exact decide_eq_false (fun h => hz (by rw [h]; rfl))
  have hcv := bytes_of w t
  have hB := bytes_lie w t rfl
  have hNW := bytes_new w t
  obtain ⟨cap, hcap⟩ : ∃ cap, cap = grownCap w t.size 0 5 := ⟨_, rfl⟩
  rw [← hcap] at hcv
  obtain ⟨W1, hW1⟩ : ∃ W1, W1 = afterBytes w t := ⟨_, rfl⟩
  rw [← hW1] at hcv hB hNW
  have HBY := hid hB
  have HN := hid hNW
  obtain ⟨bs, hL⟩ : ∃ bs, bs = t.data.toList := ⟨_, rfl⟩
  rw [← hL] at HBY hV hlen
  have HV := hid hV
  have hmv : IntKind.u64.wrap (IntKind.u64.wrap 2147483648 - 1) = 2147483647 := by
    rw [IntKind.wrap_u64, IntKind.wrap_u64]
    decide
  clear hW1 hL hV hB hNW hne hcap
  go_enter Tryz.func189, Tryz.ntmps189
  go_wp2
  go_loop [12, 13, 101] (fun vu vn vi => ∃ (k acc : Nat) (a : Int), vu = .bool false ∧ vn = .int .u64 a ∧ vi = .int .i64 k ∧ k ≤ t.size ∧ Hid (a = (acc : Int) ∧ acc ≤ 2147483647 ∧ V = puA 16 acc (bs.drop k))) (fun _ _ vi => t.size - (intOf vi).toNat)
  case atStart => exact ⟨0, 0, 0, rfl, rfl, rfl, by omega, hid ⟨rfl, by omega, HV.out⟩⟩
  case round =>
    obtain ⟨k, acc, a, rfl, rfl, rfl, hk, hh⟩ := hrel
    obtain ⟨ha, hacc, hdec⟩ := hh.out
    clear hh HV
    have a0 : 0 ≤ a := by omega
    have a1 : a ≤ 2147483647 := by omega
    by_cases hkn : k < t.size
    · have hc := HBY.out.cell (i := k) (by omega)
      have hdrop : bs.drop k = bs[k]'(by omega) :: bs.drop (k + 1) := List.drop_eq_getElem_cons (by omega)
      rw [hdrop] at hdec
      generalize bs[k]'(by omega) = c at hc hdec
      have hc256 : c.toNat < 256 := c.toNat_lt
      clear hdrop
      cases hdig : isDig c with
      | true =>
        have hd2 := hdig
        simp only [isDig, Bool.and_eq_true, decide_eq_true_eq] at hd2
        obtain ⟨hd0, hd1⟩ := hd2
        have hdn : digN 16 c = some (c.toNat - 48) := by unfold digN hexN; simp [hdig, hd0, hd1]
        by_cases hov : 2147483647 < acc * 16 + (c.toNat - 48)
        · have hF : Hid (V = none) := hid (by rw [hdec]; exact puA_over hdn hov)
          have iov : 2147483647 < a * 16 + ((c.toNat : Int) - 48) := by omega
          clear hov ha hacc hdec hdn hdig
          go_wp2
          go_ret2
          exact ⟨PuTold.no hF.out (by omega) (by omega) (.inl rfl), HN.out⟩
        · have HNX : Hid (a * 16 + ((c.toNat : Int) - 48) = ((acc * 16 + (c.toNat - 48) : Nat) : Int) ∧ acc * 16 + (c.toNat - 48) ≤ 2147483647 ∧ V = puA 16 (acc * 16 + (c.toNat - 48)) (bs.drop (k + 1))) := hid ⟨by omega, by omega, by rw [hdec]; exact puA_on hdn hov⟩
          have iov : a * 16 + ((c.toNat : Int) - 48) ≤ 2147483647 := by omega
          clear hov ha hacc hdec hdn hdig
          go_wp2
          refine ⟨⟨k + 1, acc * 16 + (c.toNat - 48), a * 16 + ((c.toNat : Int) - 48), rfl, (by first | rfl | (congr 1; omega)), (by first | rfl | (congr 1; omega)), by omega, HNX⟩, by simp [intOf]; omega⟩
      | false =>
        have hd2 := hdig
        simp only [isDig, Bool.and_eq_false_iff, decide_eq_false_iff_not] at hd2
        have hno : ¬ (48 ≤ c.toNat ∧ c.toNat ≤ 57) := by omega
        obtain ⟨l, hl, hl1, hl2, hl3⟩ := lower_byte c hdig
        have hu : bits .or .u8 95 32 = 127 := by decide +kernel
        by_cases hr : 97 ≤ l ∧ l ≤ 102
        · have hdn : digN 16 c = some (l - 87) := by unfold digN; rw [if_pos rfl]; exact hl2 hr
          obtain ⟨hr0, hr1⟩ := hr
          have hw1 : IntKind.u8.wrap (IntKind.u8.wrap ((l : Int) - 97) + 10) = (l : Int) - 87 := by
            rw [IntKind.wrap_u8, IntKind.wrap_u8]
            omega
          have hw2 : IntKind.u8.wrap ((l : Int) - 97) = (l : Int) - 97 := by
            rw [IntKind.wrap_u8]
            omega
          have hw3 : IntKind.u8.wrap ((l : Int) - 97 + 10) = (l : Int) - 87 := by
            rw [IntKind.wrap_u8]
            omega
          have h95 : ¬ (c.toNat : Int) = 95 := by
            intro q
            rw [q, hu] at hl
            omega
          by_cases hov : 2147483647 < acc * 16 + (l - 87)
          · have hF : Hid (V = none) := hid (by rw [hdec]; exact puA_over hdn hov)
            have iov : 2147483647 < a * 16 + ((l : Int) - 87) := by omega
            clear hov ha hacc hdec hdn hdig hl2 hl3 hd2
            go_wp2_with (go_at_call 199; refine (lower_any _ _).mono ?_; rintro e w' ⟨rfl, rfl⟩; (try rw [hl]); (try rw [hu]))
            all_goals (go_ret2; exact ⟨PuTold.no hF.out (by omega) (by omega) (.inl rfl), HN.out⟩)
          · have HNX : Hid (a * 16 + ((l : Int) - 87) = ((acc * 16 + (l - 87) : Nat) : Int) ∧ acc * 16 + (l - 87) ≤ 2147483647 ∧ V = puA 16 (acc * 16 + (l - 87)) (bs.drop (k + 1))) := hid ⟨by omega, by omega, by rw [hdec]; exact puA_on hdn hov⟩
            have iov : a * 16 + ((l : Int) - 87) ≤ 2147483647 := by omega
            clear hov ha hacc hdec hdn hdig hl2 hl3 hd2
            go_wp2_with (go_at_call 199; refine (lower_any _ _).mono ?_; rintro e w' ⟨rfl, rfl⟩; (try rw [hl]); (try rw [hu]))
            all_goals (refine ⟨⟨k + 1, acc * 16 + (l - 87), a * 16 + ((l : Int) - 87), rfl, (by first | rfl | (congr 1; omega)), (by first | rfl | (congr 1; omega)), by omega, HNX⟩, by simp [intOf]; omega⟩)
        · have hF : Hid (V = none) := hid (by rw [hdec]; exact puA_stop (by unfold digN; rw [if_pos rfl]; exact hl3 hr))
          clear hdec hacc ha hdig hl2 hl3 hd2
          go_wp2_with (go_at_call 199; refine (lower_any _ _).mono ?_; rintro e w' ⟨rfl, rfl⟩; (try rw [hl]); (try rw [hu]))
          all_goals (go_ret2; exact ⟨PuTold.no hF.out (by omega) (by omega) (.inr rfl), HN.out⟩)
    · obtain rfl : k = t.size := by omega
      have hF : Hid (V = some acc) := hid (by rw [hdec, List.drop_eq_nil_of_le (by omega)]; rfl)
      subst ha
      have HA := hid hacc
      clear hdec hacc
      go_wp2
      go_ret2
      exact ⟨PuTold.yes hF.out HA.out, HN.out⟩
end Go.Proofs.YtbgmkplpolgebaaGreatDoor

namespace Go.Proofs.YtbgmkplpolgebaaGreatDoor
set_option linter.unusedSimpArgs false
set_option linter.unusedVariables false
open Go.RowKit Go.Shelf Go.Sort

/-- The table of the library's Itoa is as it was laid. -/
def Tab (w : World) : Prop := Lib.TabIs Tryz.prog w "internal/strconv.uint64pow10" .u64 Lib.pow10Tab
theorem Tab.new {w w' : World} (h : Tab w) (hn : New w w') : Tab w' := by
  unfold Tab Lib.TabIs World.var? at *
  cases hg : Tryz.prog.globalNamed "internal/strconv.uint64pow10" with
  | none => rw [hg] at h; simp at h
  | some g =>
    rw [hg] at h
    simp only [Option.bind_some] at h ⊢
    have hlt : g < w.heap.size := by
      rcases Nat.lt_or_ge g w.heap.size with h' | h'
      · exact h'
      · simp [Array.getElem?_eq_none h'] at h
    rw [hn.block g hlt (fun x => x)]
    exact h
theorem New.of_below {w w' : World} (h : Below w.heap.size w w') : New w w' :=
  ⟨h.os, h.tape, h.output, h.size, fun k hk _ => h.block k hk⟩
theorem itoa_any (n : Int) (h0 : -9223372036854775808 ≤ n) (h1 : n ≤ 9223372036854775807) (w : World) (ht : Tab w) :
    Calls Tryz.prog 117 #[.int .i64 n] w fun e w' => e = .returned (.string (itoaB n)) ∧ New w w' := by
  refine (Tryz.strconv_Itoa n h0 h1 w ht).mono ?_
  rintro e w' ⟨rfl, k, os, rfl⟩
  refine ⟨rfl, (Mod.drewN (Mod.refl _ _) k).trans ⟨rfl, rfl, rfl, by simp, fun i hi _ => Sort.heap_grow_old (w.drewN k) os hi⟩⟩
theorem var_new {w w' : World} {name : String} {cs : Array Value} (h : w.var? Tryz.prog name = some cs) (hn : New w w') : w'.var? Tryz.prog name = some cs := by
  unfold World.var? at *
  cases hg : Tryz.prog.globalNamed name with
  | none => rw [hg] at h; simp at h
  | some g =>
    rw [hg] at h
    simp only [Option.bind_some] at h ⊢
    have hlt : g < w.heap.size := by
      rcases Nat.lt_or_ge g w.heap.size with h' | h'
      · exact h'
      · simp [Array.getElem?_eq_none h'] at h
    rw [hn.block g hlt (fun x => x)]
    exact h
/-- The library's variables. -/
structure VarP (w : World) : Prop where
  tab : Tab w
  syn : ∃ tp p, w.var? Tryz.prog "strconv.ErrSyntax" = some #[.iface tp p]
  rng : ∃ tp p, w.var? Tryz.prog "strconv.ErrRange" = some #[.iface tp p]
  max : ∃ m, w.cell? ⟨0, 0, none⟩ = some (.int .i64 m)
  tz : w.cell? ⟨8, 15, none⟩ = some (.int .u8 4)
theorem VarP.new {w w' : World} (h : VarP w) (hn : New w w') : VarP w' := by
  obtain ⟨h1, ⟨tp, p, h2⟩, ⟨tq, q, h3⟩, ⟨m, h4⟩, h5⟩ := h
  exact ⟨h1.new hn, ⟨tp, p, var_new h2 hn⟩, ⟨tq, q, var_new h3 hn⟩, ⟨m, hn.cellv h4⟩, hn.cellv h5⟩
theorem glob_syn : Tryz.prog.globalNamed "strconv.ErrSyntax" = some 5 := by kernel_rfl
theorem glob_rng : Tryz.prog.globalNamed "strconv.ErrRange" = some 6 := by kernel_rfl
theorem VarP.synC {w : World} (h : VarP w) : ∃ tp p, w.cell? ⟨5, 0, none⟩ = some (.iface tp p) := by
  obtain ⟨tp, p, h2⟩ := h.syn
  exact ⟨tp, p, by have h0 := World.var?_cell glob_syn h2 0; simpa using h0⟩
theorem VarP.rngC {w : World} (h : VarP w) : ∃ tp p, w.cell? ⟨6, 0, none⟩ = some (.iface tp p) := by
  obtain ⟨tp, p, h2⟩ := h.rng
  exact ⟨tp, p, by have h0 := World.var?_cell glob_rng h2 0; simpa using h0⟩
theorem fin_zero (w : World) (o : Obj) (dk : Array UInt8) (k : Nat) : New w ((putRow (fun (b : UInt8) => Value.int .u8 (b.toNat : Int)) (w.alloc o) w.heap.size 0 dk).drewN k) := by
  rw [alloc_eq_grow]
  obtain ⟨os', _, e⟩ := putRow_grow_new (fun (b : UInt8) => Value.int .u8 (b.toNat : Int)) w #[o] w.heap.size 0 dk (Nat.le_refl _)
  rw [e]
  have hg : New w (grow w os') := ⟨rfl, rfl, rfl, by simp, fun i hi _ => Sort.heap_grow_old w os' hi⟩
  exact hg.drewN k
theorem holds_z0 (w : World) (T : TypeId) (nd : Nat) (hs : nd ≤ 24) : Holds (fun (b : UInt8) => Value.int .u8 (b.toNat : Int)) (w.alloc (.cells Lib.zeros24 T)) w.heap.size 0 (Array.replicate nd (0 : UInt8)) := fun j hj => by
  have hj' : j < nd := by simpa using hj
  refine ⟨?_, World.frozen?_alloc_new _ _ _ _⟩
  rw [World.cell?_alloc_new, Lib.zeros24_at _ (by omega), getElem!_pos _ j hj]
  simp

theorem arr_24 : Tryz.prog.arrayLen 210 = 24 := by kernel_rfl
set_option maxRecDepth 100000 in
set_option maxHeartbeats 6400000 in
theorem fmtu_ten (u : Nat) (hu : u ≤ 65535) (w : World) (ht : Tab w) : Calls Tryz.prog 191 #[.int .u64 u, .int .i64 10] w fun e w' => e = .returned (.string ⟨(Lib.decDigits u).toArray⟩) ∧ New w w' := by
  by_cases h100 : u < 100
  · have hI : (u : Int) < 100 := by omega
    clear ht
    go_enter Tryz.func191, Tryz.ntmps191
    go_wp2_with fail
    refine (Tryz.internal_strconv_small u h100 _).mono ?_
    rintro e w1 ⟨rfl, rfl⟩
    go_wp2
    go_ret
    exact ⟨rfl, Mod.refl _ _⟩
  · have hI : ¬ (u : Int) < 100 := by omega
    have hu1 : 1 ≤ u := by omega
    have hu64 : u < 18446744073709551616 := by omega
    have hnd20 : Lib.nDigits u ≤ 20 := by have := Lib.numDigits_eq u hu1 hu64; split at this <;> omega
    have HT := hid ht
    have hsl1 : ∀ W, (Instr.sliceAt 210 (.pointer (some ⟨w.heap.size, 0, none⟩)) none (some (.int .i64 (Lib.nDigits u : Int))) none).run Tryz.prog W = .ok (.slice (some ⟨w.heap.size, 0, none⟩) (Lib.nDigits u) 24) W := fun W => by
      rw [run_sliceAt_array_h W 210 ⟨w.heap.size, 0, none⟩ Tryz.underlying210 .i64 (Lib.nDigits u : Int) (by omega) (by rw [arr_24]; omega)]
      have hz : Tryz.prog.elem 210 = 5 := by kernel_rfl
      rw [hz, arr_24]
      go_simp
    have hH0 := holds_z0 w 210 (Lib.nDigits u) (by omega)
    have hfmt := Tryz.internal_strconv_formatBase10 w.heap.size 0 24 u (Array.replicate (Lib.nDigits u) 0) (w.alloc (.cells Lib.zeros24 210)) hH0 (by rw [Array.size_replicate]; exact Lib.lt_pow_nDigits u) hu64 (by rw [Array.size_replicate]; omega)
    rw [Array.size_replicate] at hfmt
    have HH0 := hid hH0
    have HF0 := hid hfmt
    clear hH0 ht hfmt
    go_enter Tryz.func191, Tryz.ntmps191
    go_wp2_with (first | (go_at_call 196; refine (Tryz.internal_strconv_numDigits u hu1 hu64 _ (HT.out.new ((Mod.refl _ _).alloc _))).mono ?_; rintro e w' ⟨rfl, rfl⟩) | fail)

    refine HF0.out.mono ?_
    rintro e w' ⟨rfl, k, v', dk, rfl, hF⟩
    have hcv : (convert 42 9 (.slice (some ⟨w.heap.size, 0, none⟩) (Lib.nDigits u) 24)).run Tryz.prog ((putRow (fun (b : UInt8) => Value.int .u8 (b.toNat : Int)) (w.alloc (.cells Lib.zeros24 210)) w.heap.size 0 dk).drewN k) = .ok (.string ⟨(Lib.decDigits u).toArray⟩) ((putRow (fun (b : UInt8) => Value.int .u8 (b.toNat : Int)) (w.alloc (.cells Lib.zeros24 210)) w.heap.size 0 dk).drewN k) := by
      have h := run_convert_bytes_back (P := Tryz.prog) ((putRow (fun (b : UInt8) => Value.int .u8 (b.toNat : Int)) (w.alloc (.cells Lib.zeros24 210)) w.heap.size 0 dk).drewN k) 42 9 5 ⟨w.heap.size, 0, none⟩ 24 (Lib.decDigits u) Tryz.underlying42 Tryz.underlying5 Tryz.underlying9 (fun j hj => by
        rw [Lib.row_is_numeral hF j hj, Lib.add_plain, World.cell?_drewN]
        exact cell?_putRow (fun (b : UInt8) => Value.int .u8 (b.toNat : Int)) _ w.heap.size 0 _ dk HH0.out (by rw [hF.size, Array.size_replicate]) j (by rw [hF.size]; rw [Lib.decDigits_length] at hj; exact hj))
      rw [Lib.decDigits_length] at h
      exact h
    have HN := hid (fin_zero w (.cells Lib.zeros24 210) dk k)
    go_wp2
    go_ret
    exact ⟨rfl, HN.out⟩
end Go.Proofs.YtbgmkplpolgebaaGreatDoor
