/-
  Several texts in one, in their build order. The maps of the law WebOnce: what came, and what was met. Plain facts over the program. No condition. The walks of within (the reference) and slices.Equal at texts. Condition: both slices hold texts. The walk of Decimal (the reference): the decimal text of a number. Condition: an int.
-/
import Derived.Test.YtnhgichiedninaaGreatDoorM19
import Derived.Test.YtnhgichiedninaaGreatDoorM22
import Derived.Test.YtnhgichiedninaaGreatDoorM3
import Derived.Test.YtnhgichiedninaaGreatDoorM4
import Derived.Laws.BytesArg
namespace Go.Proofs.YtnhgichiedninaaGreatDoor
set_option linter.unusedSimpArgs false
set_option linter.unusedVariables false
open Go.RowKit Go.Shelf

def cameL (K : List Nat) : List (Value × Value) := K.map fun (k : Nat) => (Value.int .i64 (k : Int), Value.int .i64 1)
def metL (K : List Nat) : List (Value × Value) := K.map fun (k : Nat) => (Value.int .i64 (k : Int), Value.bool true)
def CameAt (w : World) (M : Nat) (K : List Nat) : Prop := MapL w M (.int .i64) (cameL K)
def MetAt (w : World) (M : Nat) (K : List Nat) : Prop := MapL w M (.int .i64) (metL K)
theorem cameL_ne {K : List Nat} {i : Nat} (h : i ∉ K) : ∀ x ∈ cameL K, x.1 ≠ .int .i64 (i : Int) := by
  intro x hx e
  obtain ⟨k, hk, rfl⟩ := List.mem_map.1 hx
  exact h (int_inj e ▸ hk)
theorem metL_ne {K : List Nat} {i : Nat} (h : i ∉ K) : ∀ x ∈ metL K, x.1 ≠ .int .i64 (i : Int) := by
  intro x hx e
  obtain ⟨k, hk, rfl⟩ := List.mem_map.1 hx
  exact h (int_inj e ▸ hk)
theorem came_no {w : World} {M : Nat} {K : List Nat} (h : CameAt w M K) {i : Nat} (hi : i ∉ K) : (Instr.lookup 32 (.map (some M)) (.int .i64 (i : Int)) false).run Tryz.prog w = .ok (.int .i64 0) w :=
  MapL.look_no h Tryz.underlying32 Tryz.underlying3 (key_int i) (cameL_ne hi) (z := .int .i64 0) (Tryz.zeroValue3 w) false
theorem came_yes {w : World} {M : Nat} {K : List Nat} (h : CameAt w M K) {i : Nat} (hi : i ∈ K) : (Instr.lookup 32 (.map (some M)) (.int .i64 (i : Int)) false).run Tryz.prog w = .ok (.int .i64 1) w := by
  obtain ⟨j, hj⟩ := List.getElem?_of_mem hi
  exact MapL.look_at h Tryz.underlying32 Tryz.underlying3 (key_int i) (i := j) (v := .int .i64 1) (by unfold cameL; rw [List.getElem?_map, hj]; rfl) false
theorem came_put {w : World} {M : Nat} {K : List Nat} (h : CameAt w M K) {i : Nat} (hi : i ∉ K) : ∃ w', (Instr.mapUpdate 32 (.map (some M)) (.int .i64 (i : Int)) (.int .i64 1)).run Tryz.prog w = .ok () w' ∧ CameAt w' M (K ++ [i]) ∧ Mod (fun q => q = M) w w' := by
  obtain ⟨w', h1, h2, h3⟩ := MapL.put_no (P := Tryz.prog) h Tryz.underlying32 Tryz.underlying3 (key_int i) (cameL_ne hi) (.int .i64 1)
  exact ⟨w', h1, by unfold CameAt cameL; rw [List.map_append]; exact h2, h3⟩
theorem met_no {w : World} {M : Nat} {K : List Nat} (h : MetAt w M K) {i : Nat} (hi : i ∉ K) : (Instr.lookup 37 (.map (some M)) (.int .i64 (i : Int)) false).run Tryz.prog w = .ok (.bool false) w :=
  MapL.look_no h Tryz.underlying37 Tryz.underlying3 (key_int i) (metL_ne hi) (z := .bool false) (Tryz.zeroValue4 w) false
theorem met_put {w : World} {M : Nat} {K : List Nat} (h : MetAt w M K) {i : Nat} (hi : i ∉ K) : ∃ w', (Instr.mapUpdate 37 (.map (some M)) (.int .i64 (i : Int)) (.bool true)).run Tryz.prog w = .ok () w' ∧ MetAt w' M (K ++ [i]) ∧ Mod (fun q => q = M) w w' := by
  obtain ⟨w', h1, h2, h3⟩ := MapL.put_no (P := Tryz.prog) h Tryz.underlying37 Tryz.underlying3 (key_int i) (metL_ne hi) (.bool true)
  exact ⟨w', h1, by unfold MetAt metL; rw [List.map_append]; exact h2, h3⟩
theorem CameAt.mod {S : Nat → Prop} {w w' : World} {M : Nat} {K : List Nat} (h : CameAt w M K) (hm : Mod S w w') (hn : ¬ S M) : CameAt w' M K := MapL.mod h hm hn
theorem CameAt.new {w w' : World} {M : Nat} {K : List Nat} (h : CameAt w M K) (hm : New w w') : CameAt w' M K := MapL.new h hm
theorem MetAt.mod {S : Nat → Prop} {w w' : World} {M : Nat} {K : List Nat} (h : MetAt w M K) (hm : Mod S w w') (hn : ¬ S M) : MetAt w' M K := MapL.mod h hm hn
theorem MetAt.new {w w' : World} {M : Nat} {K : List Nat} (h : MetAt w M K) (hm : New w w') : MetAt w' M K := MapL.new h hm
theorem range_next (a j : Nat) : List.range' a (j + 1) = List.range' a j ++ [a + j] := by
  have := List.range'_concat (s := a) (n := j) (step := 1)
  simpa using this
theorem not_range (K : List Nat) (a n : Nat) (h : (K ++ List.range' a n).Nodup) {j : Nat} (hj : j < n) : a + j ∉ K ++ List.range' a j := by
  rw [List.nodup_append] at h
  intro q
  rcases List.mem_append.1 q with q | q
  · exact h.2.2 _ q (a + j) (by rw [List.mem_range'_1]; omega) rfl
  · rw [List.mem_range'_1] at q
    omega
theorem pcs_next {U : List (Int × Int)} {m : Nat} (h : m < U.length) : (U.take (m + 1)).flatMap pcsOf = (U.take m).flatMap pcsOf ++ pcsOf U[m] := by
  rw [List.take_succ_eq_append_getElem h, List.flatMap_append]
  simp
theorem pcs_part {U : List (Int × Int)} (h : (U.flatMap pcsOf).Nodup) (m : Nat) : ((U.take m).flatMap pcsOf).Nodup := by
  have e : U.flatMap pcsOf = (U.take m).flatMap pcsOf ++ (U.drop m).flatMap pcsOf := by rw [← List.flatMap_append, List.take_append_drop]
  rw [e, List.nodup_append] at h
  exact h.1
theorem took_can {c : CliV} {now : Int} {k : Nat} {s : SeedV} (hs : c.seeds[k]? = some s) (hu : s.under = true) (ht : c.now ≤ now ∧ now ≤ 1000000000) : c.tookE now k = 0 := by
  have hkl := (List.getElem?_eq_some_iff.1 hs).1
  have ha : c.atE now = 0 := by unfold CliV.atE; rw [if_neg (by omega)]
  unfold CliV.tookE
  rw [if_neg (by omega), if_neg (by rw [ha]; simp), Int.toNat_natCast, hs]
  simp only [hu, if_true]
theorem took_cannot {c : CliV} {now : Int} {k : Nat} {s : SeedV} (hs : c.seeds[k]? = some s) (ht : c.now ≤ now ∧ now ≤ 1000000000) (hno : c.tookE now k ≠ 0) : s.under = false := by
  cases hu : s.under with
  | false => rfl
  | true => exact absurd (took_can hs hu ht) hno
theorem took_under {c : CliV} {now : Int} {k : Nat} {s : SeedV} (hs : c.seeds[k]? = some s) (hok : c.tookE now k = 0) : s.under = true := by
  have hkl := (List.getElem?_eq_some_iff.1 hs).1
  unfold CliV.tookE at hok
  rw [if_neg (by omega)] at hok
  by_cases hz : c.atE now = 0
  · rw [if_neg (by rw [hz]; simp), Int.toNat_natCast, hs] at hok
    cases hu : s.under with
    | true => rfl
    | false => simp [hu] at hok
  · rw [if_pos hz] at hok
    exact absurd hok hz
theorem cell_ne_map {w : World} {g b i : Nat} {v : Value} {d : TypeDesc} {L : List (Value × Value)} (h : w.cell? ⟨g, i, none⟩ = some v) (hm : MapL w b d L) : g ≠ b := by
  intro e
  subst e
  obtain ⟨es, cl, hb, -⟩ := hm
  simp [World.cell?, hb] at h
/-- Where a run under way lies within the pieces. -/
theorem OnceAt.under {W : List Bool} {c : CliV} {K : List Nat} (h : OnceAt W c K) {U : List (Int × Int)} (hU : U.Perm (underOf c.seeds)) : ∀ s ∈ U, 0 ≤ s.1 ∧ 0 ≤ s.2 ∧ s.1 + s.2 ≤ W.length := by
  intro s hs
  have hs2 := hU.mem_iff.1 hs
  unfold underOf at hs2
  obtain ⟨t, ht, rfl⟩ := List.mem_map.1 hs2
  obtain ⟨r1, r2, r3⟩ := h.rng t (List.mem_filter.1 ht).1
  rw [h.n] at r3
  exact ⟨r1, r2, r3⟩
end Go.Proofs.YtnhgichiedninaaGreatDoor

namespace Go.Proofs.YtnhgichiedninaaGreatDoor
set_option linter.unusedSimpArgs false
set_option linter.unusedVariables false
open Go.RowKit

theorem prefix_upto {p q : List ByteArray} (hl : p.length ≤ q.length) (h : ∀ (j : Nat) (h1 : j < p.length) (h2 : j < q.length), q[j] = p[j]) : p <+: q := by
  rw [List.prefix_iff_eq_take]
  apply List.ext_getElem
  · simp; omega
  · intro j h1 h2
    simp at h2
    simp [h j h1 (by omega)]
theorem prefix_not {p q : List ByteArray} {j : Nat} (h1 : j < p.length) (h2 : j < q.length) (h : q[j] ≠ p[j]) : ¬ p <+: q := by
  intro hp
  exact h (List.IsPrefix.getElem hp h1).symm

set_option maxHeartbeats 1000000 in
theorem within_any (a b : Option Addr) (c d : Nat) (p q : List ByteArray) (w : World) (hp : StrsAt w a c p) (hq : StrsAt w b d q) :
    Calls Tryz.prog 135 #[.slice a p.length c, .slice b q.length d] w fun e w' => e = .returned (.bool (decide (p <+: q))) ∧ w = w' := by
  have hm1 := hp.room; have hm2 := hp.cap; have hm3 := hq.room; have hm4 := hq.cap
  unfold maxLen at hm2 hm4
  by_cases hl : p.length ≤ q.length
  · by_cases hz : 0 < p.length
    · obtain ⟨b1, o1, rfl, hb1, hc1⟩ := hp.get hz
      obtain ⟨b2, o2, rfl, hb2, hc2⟩ := hq.get (by omega)
      have HP := hid (And.intro hp hq)
      clear hp hq
      go_enter Tryz.func135, Tryz.ntmps135
      go_wp2
      go_loopw [14] (fun i wr => ∃ k : Nat, i = .int .i64 k ∧ k ≤ p.length ∧ (∀ (j : Nat) (h1 : j < p.length) (h2 : j < q.length), j < k → q[j] = p[j]) ∧ wr = w) (fun i _ => p.length - (intOf i).toNat)
      case atStart => exact ⟨0, rfl, by omega, by intros; omega, rfl⟩
      case round =>
        obtain ⟨k, rfl, hk, hb, rfl⟩ := hrel
        have HB := hid hb
        clear hb
        by_cases hlt : k < p.length
        · have g1 := hc1 k hlt
          have g2 := hc2 k (by omega)
          have HC1 := hid hc1; have HC2 := hid hc2
          clear hc1 hc2
          by_cases he : q[k] = p[k]
          · have hb2 : (q[k].toList == p[k].toList) = true := by rw [two_eq, decide_eq_true he]
            have HE := hid he
            clear he
            go_wp2
            exact ⟨⟨k + 1, by simp, by omega, fun j h1 h2 hj => by rcases Nat.lt_succ_iff_lt_or_eq.1 hj with h | h; exact HB.out j h1 h2 h; subst h; exact HE.out, trivial⟩, by simp [intOf]; omega⟩
          · have hb2 : (q[k].toList == p[k].toList) = false := by rw [two_eq, decide_eq_false he]
            have HE := hid (prefix_not hlt (by omega) he)
            clear he
            go_wp2
            go_ret
            exact ⟨ret_bool (decide_eq_false HE.out).symm, rfl⟩
        · have HE := hid (prefix_upto hl (fun j h1 h2 => HB.out j h1 h2 (by omega)))
          clear hc1 hc2
          go_wp2
          go_ret
          exact ⟨ret_bool (decide_eq_true HE.out).symm, rfl⟩
    · obtain rfl : p = [] := List.eq_nil_of_length_eq_zero (by omega)
      clear hp hq
      go_enter Tryz.func135, Tryz.ntmps135
      go_wp2
      refine wp_loop_rounds 1 ?_
      rw [rounds_succ]
      go_wp2
      go_ret
      exact ⟨ret_bool (decide_eq_true (List.nil_prefix)).symm, rfl⟩
  · have HE := hid (show ¬ p <+: q from fun h => hl h.length_le)
    clear hp hq
    go_enter Tryz.func135, Tryz.ntmps135
    go_wp2
    go_ret
    exact ⟨ret_bool (decide_eq_false HE.out).symm, rfl⟩

theorem eq_upto {p q : List ByteArray} (hl : p.length = q.length) (h : ∀ (j : Nat) (h1 : j < p.length) (h2 : j < q.length), p[j] = q[j]) : p = q :=
  List.ext_getElem hl h
theorem eq_not {p q : List ByteArray} {j : Nat} (h1 : j < p.length) (h2 : j < q.length) (h : p[j] ≠ q[j]) : p ≠ q := by
  rintro rfl
  exact h rfl
set_option maxHeartbeats 1000000 in
theorem equal_any (a b : Option Addr) (c d : Nat) (p q : List ByteArray) (w : World) (hp : StrsAt w a c p) (hq : StrsAt w b d q) :
    Calls Tryz.prog 163 #[.slice a p.length c, .slice b q.length d] w fun e w' => e = .returned (.bool (decide (p = q))) ∧ New w w' := by
  have hm1 := hp.room; have hm2 := hp.cap; have hm3 := hq.room; have hm4 := hq.cap
  unfold maxLen at hm2 hm4
  by_cases hl : p.length = q.length
  · by_cases hz : 0 < p.length
    · obtain ⟨b1, o1, rfl, hb1, hc1⟩ := hp.get hz
      obtain ⟨b2, o2, rfl, hb2, hc2⟩ := hq.get (by omega)
      have HP := hid (And.intro hp hq)
      have HL := hid hl
      rw [← hl]
      clear hp hq hl
      go_enter Tryz.func163, Tryz.ntmps163
      go_wp2
      go_loopw [13] (fun i wr => ∃ k : Nat, i = .int .i64 k ∧ k ≤ p.length ∧ (∀ (j : Nat) (h1 : j < p.length) (h2 : j < q.length), j < k → p[j] = q[j]) ∧ ∃ n, wr = w.drewN n) (fun i _ => p.length - (intOf i).toNat)
      case atStart => exact ⟨0, rfl, by omega, by intros; omega, 0, rfl⟩
      case round =>
        obtain ⟨k, rfl, hk, hb, n, rfl⟩ := hrel
        have HB := hid hb
        clear hb
        by_cases hlt : k < p.length
        · have hlt2 : k < q.length := by have := HL.out; omega
          have g1 := hc1 k hlt
          have g2 := hc2 k hlt2
          have HC1 := hid hc1; have HC2 := hid hc2
          clear hc1 hc2
          by_cases he : p[k] = q[k]
          · have hb2 : (p[k].toList == q[k].toList) = true := by rw [two_eq, decide_eq_true he]
            have HE := hid he
            clear he
            go_wp2_with fail
            go_region
            go_wp2
            exact ⟨⟨k + 1, by simp, by omega, fun j h1 h2 hj => by rcases Nat.lt_succ_iff_lt_or_eq.1 hj with h | h; exact HB.out j h1 h2 h; subst h; exact HE.out, n + 1, rfl⟩, by simp [intOf]; omega⟩
          · have hb2 : (p[k].toList == q[k].toList) = false := by rw [two_eq, decide_eq_false he]
            have HE := hid (eq_not hlt hlt2 he)
            clear he
            go_wp2_with fail
            go_region
            go_wp2
            go_ret
            exact ⟨ret_bool (decide_eq_false HE.out).symm, (Mod.refl _ _).drewN n |>.drew⟩
        · have HE := hid (eq_upto HL.out (fun j h1 h2 => HB.out j h1 h2 (by omega)))
          clear hc1 hc2
          go_wp2
          go_ret
          exact ⟨ret_bool (decide_eq_true HE.out).symm, (Mod.refl _ _).drewN n⟩
    · obtain rfl : p = [] := List.eq_nil_of_length_eq_zero (by omega)
      obtain rfl : q = [] := List.eq_nil_of_length_eq_zero (by simpa using hl.symm)
      clear hp hq
      go_enter Tryz.func163, Tryz.ntmps163
      go_wp2
      refine wp_loop_rounds 1 ?_
      rw [rounds_succ]
      go_wp2
      go_ret
      exact ⟨ret_bool (by simp), Mod.refl _ _⟩
  · have HE := hid (show p ≠ q from fun h => hl (by rw [h]))
    clear hp hq
    go_enter Tryz.func163, Tryz.ntmps163
    go_wp2
    go_ret
    exact ⟨ret_bool (decide_eq_false HE.out).symm, Mod.refl _ _⟩
end Go.Proofs.YtnhgichiedninaaGreatDoor

namespace Go.Proofs.YtnhgichiedninaaGreatDoor
set_option linter.unusedSimpArgs false
set_option linter.unusedVariables false
open Go.RowKit

theorem itoa_one {m : Nat} (h : m < 10) : itoaB (m : Int) = ⟨#[UInt8.ofNat (48 + m)]⟩ := by
  unfold itoaB Lib.itoa
  rw [if_neg (by omega), Lib.decDigits, dif_pos (by simpa using h)]
  simp
theorem itoa_more {m : Nat} (h : ¬ m < 10) : itoaB (m : Int) = itoaB ((m / 10 : Nat) : Int) ++ ⟨#[UInt8.ofNat (48 + m % 10)]⟩ := by
  apply bytes_ext
  unfold itoaB Lib.itoa
  rw [if_neg (by omega), Lib.decDigits, dif_neg (by simpa using h), if_neg (by omega)]
  have : ((m / 10 : Nat) : Int).toNat = m / 10 := Int.toNat_natCast _
  rw [this]
  simp

theorem itoa_size {n : Int} (h0 : -9223372036854775808 ≤ n) (h1 : n ≤ 9223372036854775807) : (itoaB n).size ≤ 21 := by
  have := Lib.itoa_length_le n h0 h1
  show (Lib.itoa n).toArray.size ≤ 21
  simpa using this
theorem ret_str {a b : ByteArray} (h : a = b) : Ending.returned (.string a) = .returned (.string b) := by rw [h]
theorem one_byte (w : World) (v : Int) : (convert 83 9 (.slice (some ⟨w.heap.size, 0, none⟩) 1 1)).run Tryz.prog (w.alloc (.cells #[.int .u8 v] 5)) = .ok (.string ⟨#[UInt8.ofNat v.toNat]⟩) (w.alloc (.cells #[.int .u8 v] 5)) := by
  have := run_convert_bytes_arg (P := Tryz.prog) (w.alloc (.cells #[.int .u8 v] 5)) 83 5 Tryz.underlying83 Tryz.underlying5 w.heap.size 0 1 1 [v] rfl (fun i hi => by
    obtain rfl : i = 0 := by omega
    exact (Blk.new w #[.int .u8 v] 5).cellv 0 rfl) 9 Tryz.underlying9
  rw [this]
  rfl

set_option maxRecDepth 100000 in
set_option maxHeartbeats 1000000 in
theorem decimal_nat (m : Nat) : (m : Int) ≤ 9223372036854775807 → ∀ w : World, Calls Tryz.prog 155 #[.int .i64 m] w fun e w' => e = .returned (.string (itoaB m)) ∧ New w w' := by
  induction m using Nat.strongRecOn with
  | ind m ih =>
    intro hm w
    have hcv := one_byte w (48 + (m : Int) % 10)
    have h48 : (48 + (m : Int) % 10).toNat = 48 + m % 10 := by omega
    by_cases h : m < 10
    · have HI := hid (itoa_one h)
      have hmm : m % 10 = m := by omega
      have HM := hid (And.intro h48 hmm)
      clear ih h48 hmm
      go_enter Tryz.func155, Tryz.ntmps155
      go_wp2
      go_ret
      exact ⟨ret_str (by rw [HI.out, HM.out.2]), (Mod.refl _ _).alloc _⟩
    · have e10 : ((m / 10 : Nat) : Int) = (m : Int) / 10 := by omega
      have HI := hid (itoa_more h)
      have HM := hid h48
      have IH := hid (ih (m / 10) (by omega) (by omega))
      rw [e10] at HI IH
      have hs1 := itoa_size (n := (m : Int) / 10) (by omega) (by omega)
      have hs2 : (⟨#[48 + UInt8.ofNat (m % 10)]⟩ : ByteArray).size = 1 := rfl
      clear ih h48 e10
      go_enter Tryz.func155, Tryz.ntmps155
      go_wp2_with (go_at_call 155; refine (IH.out _).mono ?_; rintro e w1 ⟨rfl, h1⟩; have H1 := hid h1; clear h1)
      go_ret
      exact ⟨ret_str (by rw [HI.out]; simp), ((Mod.refl _ _).alloc _).trans H1.out⟩

theorem itoa_small {m : Nat} (h0 : 0 < m) (h : m < 10) : itoaB (-(m : Int)) = ⟨#[45]⟩ ++ itoaB m := by
  apply bytes_ext
  rw [show (-(m : Int)) = -((m : Nat) : Int) from rfl]
  simp [itoaB, Lib.itoa_neg m (by omega), Lib.itoa_nonneg m]
theorem itoa_great {m : Nat} (h : ¬ m < 10) : itoaB (-(m : Int)) = itoaB (-((m / 10 : Nat) : Int)) ++ itoaB ((m % 10 : Nat) : Int) := by
  apply bytes_ext
  unfold itoaB
  rw [Lib.itoa_neg m (by omega), Lib.itoa_neg (m / 10) (by omega), Lib.itoa_nonneg, Lib.decDigits, dif_neg (by simpa using h), Lib.decDigits_one (show m % 10 < 10 by omega)]
  simp

set_option maxRecDepth 100000 in
set_option maxHeartbeats 1000000 in
theorem decimal_neg (m : Nat) : 0 < m → (m : Int) ≤ 9223372036854775808 → ∀ w : World, Calls Tryz.prog 155 #[.int .i64 (-(m : Int))] w fun e w' => e = .returned (.string (itoaB (-(m : Int)))) ∧ New w w' := by
  induction m using Nat.strongRecOn with
  | ind m ih =>
    intro h0 hm w
    have hq : (-(m : Int)).tdiv 10 = -((m / 10 : Nat) : Int) := by
      rw [Int.neg_tdiv, Int.tdiv_eq_ediv_of_nonneg (by omega)]; simp
    by_cases h : m < 10
    · have HI := hid (itoa_small h0 h)
      have hz : (m : Int) / 10 = 0 := by omega
      have IH := hid (decimal_nat m (by omega))
      have hs1 := itoa_size (n := (m : Int)) (by omega) (by omega)
      clear ih hq
      go_enter Tryz.func155, Tryz.ntmps155
      go_wp2_with (go_at_call 155; refine (IH.out _).mono ?_; rintro e w1 ⟨rfl, h1⟩; have H1 := hid h1; clear h1)
      go_ret
      exact ⟨ret_str HI.out.symm, H1.out⟩
    · have e10 : ((m / 10 : Nat) : Int) = (m : Int) / 10 := by omega
      have e11 : ((m % 10 : Nat) : Int) = (m : Int) % 10 := by omega
      have HI := hid (itoa_great h)
      have hnz : (-((m : Int) / 10) == 0) = false := by simp; omega
      have hb : -922337203685477581 ≤ -((m : Int) / 10) ∧ -((m : Int) / 10) < 0 := by omega
      have IH := hid (ih (m / 10) (by omega) (by omega) (by omega))
      have IH2 := hid (decimal_nat (m % 10) (by omega))
      rw [e10] at IH HI
      rw [e11] at IH2 HI
      have hs1 := itoa_size (n := -((m : Int) / 10)) (by omega) (by omega)
      have hs2 := itoa_size (n := (m : Int) % 10) (by omega) (by omega)
      have tok : True := trivial
      clear ih hq e10 e11
      go_enter Tryz.func155, Tryz.ntmps155
      go_wp2_with (first | (go_at_call 155; have tk := tok; clear tok; refine (IH.out _).mono ?_; rintro e w1 ⟨rfl, h1⟩; have H1 := hid h1; clear h1) | (go_at_call 155; refine (IH2.out _).mono ?_; rintro e w2 ⟨rfl, h2⟩; have H2 := hid h2; clear h2))
      go_ret
      exact ⟨ret_str HI.out.symm, H1.out.trans H2.out⟩
/-- Decimal writes a number as the program does. -/
theorem decimal_any (n : Int) (h0 : -9223372036854775808 ≤ n) (h1 : n ≤ 9223372036854775807) (w : World) : Calls Tryz.prog 155 #[.int .i64 n] w fun e w' => e = .returned (.string (itoaB n)) ∧ New w w' := by
  by_cases h : 0 ≤ n
  · obtain ⟨m, rfl⟩ := Int.eq_ofNat_of_zero_le h
    exact decimal_nat m h1 w
  · obtain ⟨m, rfl⟩ : ∃ m : Nat, n = -(m : Int) := ⟨n.natAbs, by omega⟩
    exact decimal_neg m (by omega) (by omega) w
end Go.Proofs.YtnhgichiedninaaGreatDoor
