/-
  Several texts in one, in their build order. Path, the library's Itoa, and the table that it reads; the closures of file; ContainsFunc. Conditions: the table is as its initialiser lays it; a path's text is no longer than 2^47 bytes. The walks of within (the reference) and slices.Equal at texts. Condition: both slices hold texts. The walk of Decimal (the reference): the decimal text of a number. Condition: an int.
-/
import Derived.Test.YtnhgichiedninaaGreatDoorM3
import Derived.Test.YtnhgichiedninaaGreatDoorM19
import Derived.Test.YtnhgichiedninaaGreatDoorM4
import Derived.Laws.BytesArg
namespace Go.Proofs.YtnhgichiedninaaGreatDoor
set_option linter.unusedSimpArgs false
set_option linter.unusedVariables false
open Go.RowKit

/-- The table of the library's Itoa is as it was laid. -/
def Tab (w : World) : Prop := Lib.TabIs Tryz.prog w "internal/strconv.uint64pow10" .u64 Lib.pow10Tab
theorem Tab.new {w w' : World} (h : Tab w) (hn : New w w') : Tab w' := by
  unfold Tab Lib.TabIs World.var? at *
  cases hg : Tryz.prog.globalNamed "internal/strconv.uint64pow10" with
  | none => rw [hg] at h; simp at h
  | some g =>
    rw [hg] at h
    simp only [Option.bind_some] at h ⊢
    have hlt : g < w.heap.size := by
      rcases Nat.lt_or_ge g w.heap.size with h' | h'
      · exact h'
      · simp [Array.getElem?_eq_none h'] at h
    rw [hn.block g hlt (fun x => x)]
    exact h
theorem New.of_below {w w' : World} (h : Below w.heap.size w w') : New w w' :=
  ⟨h.os, h.tape, h.output, h.size, fun k hk _ => h.block k hk⟩
theorem itoa_any (n : Int) (h0 : -9223372036854775808 ≤ n) (h1 : n ≤ 9223372036854775807) (w : World) (ht : Tab w) :
    Calls Tryz.prog 71 #[.int .i64 n] w fun e w' => e = .returned (.string (itoaB n)) ∧ New w w' := by
  refine (Tryz.strconv_Itoa n h0 h1 w ht).mono ?_
  rintro e w' ⟨rfl, k, os, rfl⟩
  refine ⟨rfl, (Mod.drewN (Mod.refl _ _) k).trans ⟨rfl, rfl, rfl, by simp, fun i hi _ => Sort.heap_grow_old (w.drewN k) os hi⟩⟩
theorem join_any (a : Option Addr) (c : Nat) (p : List ByteArray) (w : World) (h : StrsAt w a c p) (hl : p.length ≤ 140737488355328) (hb : (joinB p).size ≤ 140737488355328) :
    Calls Tryz.prog 133 #[.slice a p.length c, .string ⟨#[47]⟩] w fun e w' => e = .returned (.string (joinB p)) ∧ New w w' := by
  have hb' : (Lib.join (p.map (·.data.toList)) [47]).length ≤ 140737488355328 := by
    have : (joinB p).size = (Lib.join (p.map (·.data.toList)) [47]).toArray.size := rfl
    rw [this] at hb
    simpa using hb
  rcases h.at' with rfl | ⟨b, o, rfl, hlt, hc⟩
  · refine (Tryz.strings_Join_none a c _ w).mono ?_
    rintro e w' ⟨rfl, rfl⟩
    exact ⟨rfl, Mod.refl _ _⟩
  · refine (Tryz.strings_Join b o c p ⟨#[47]⟩ w hc hlt hl h.room hb').mono ?_
    rintro e w' ⟨rfl, hn⟩
    exact ⟨rfl, New.of_below hn⟩
set_option maxHeartbeats 1000000 in
theorem path_any (a : Option Addr) (c : Nat) (p : List ByteArray) (w : World) (h : StrsAt w a c p) (hl : p.length ≤ 140737488355328) (hb : (joinB p).size ≤ 140737488355328) :
    Calls Tryz.prog 90 #[.slice a p.length c] w fun e w' => e = .returned (.string (joinB p)) ∧ New w w' := by
  have HJ := hid (join_any a c p w h hl hb)
  clear h hl hb
  go_enter Tryz.func90, Tryz.ntmps90
  go_wp2_with (go_at_call 133; refine HJ.out.mono ?_; rintro e w1 ⟨rfl, h1⟩; have H1 := hid h1; clear h1)
  go_ret
  exact ⟨rfl, H1.out⟩

/-- The closure that file hands to ContainsFunc. -/
theorem notPart_any (s : ByteArray) (w : World) (hs : s.size ≤ maxLen) :
    Calls Tryz.prog 161 #[.string s] w fun e w' => e = .returned (.bool (!partOk s)) ∧ w = w' := by
  go_enter Tryz.func161, Tryz.ntmps161
  go_wp2_with (go_at_call 162; refine (part_any s w hs).mono ?_; rintro e w1 ⟨rfl, rfl⟩)
  go_ret
  exact ⟨rfl, rfl⟩
theorem all_upto {p : List ByteArray} {k : Nat} (hk : ¬ k < p.length) (h : ∀ (j : Nat) (hj : j < p.length), j < k → partOk p[j] = true) : p.all partOk = true := by
  rw [List.all_eq_true]
  intro x hx
  obtain ⟨j, hj, rfl⟩ := List.mem_iff_getElem.1 hx
  exact h j hj (by omega)
theorem all_not {p : List ByteArray} {k : Nat} (hk : k < p.length) (h : partOk p[k] = false) : p.all partOk = false := by
  rw [List.all_eq_false]
  exact ⟨_, List.getElem_mem hk, by simp [h]⟩
set_option maxHeartbeats 1000000 in
theorem index_any (a : Option Addr) (c : Nat) (p : List ByteArray) (w : World) (h : StrsAt w a c p) :
    Calls Tryz.prog 72 #[.slice a p.length c, .func (.func 161) #[] #[]] w fun e w' => ∃ v : Int, e = .returned (.int .i64 v) ∧ decide (v ≥ 0) = !(p.all partOk) ∧ w = w' := by
  have hm1 := h.room; have hm2 := h.cap
  unfold maxLen at hm2
  by_cases hz : 0 < p.length
  · obtain ⟨b1, o1, rfl, hb1, hc1⟩ := h.get hz
    have HS := hid h.small
    clear h
    go_enter Tryz.func72, Tryz.ntmps72
    go_wp2
    go_loopw [8] (fun i wr => ∃ k : Nat, i = .int .i64 k ∧ k ≤ p.length ∧ (∀ (j : Nat) (hj : j < p.length), j < k → partOk p[j] = true) ∧ wr = w) (fun i _ => p.length - (intOf i).toNat)
    case atStart => exact ⟨0, rfl, by omega, by intros; omega, rfl⟩
    case round =>
      obtain ⟨k, rfl, hk, hb, rfl⟩ := hrel
      have HB := hid hb
      clear hb
      by_cases hlt : k < p.length
      · have g1 := hc1 k hlt
        have HC1 := hid hc1
        clear hc1
        have hsz : (p[k]).size ≤ maxLen := HS.out _ (List.getElem_mem hlt)
        have HP := hid (notPart_any p[k] wr hsz)
        clear hsz
        cases he : partOk p[k] with
        | true =>
          rw [he] at HP
          have HE := hid he
          clear he
          go_wp2_with (go_at_call 161; refine HP.out.mono ?_; rintro e w1 ⟨rfl, rfl⟩)
          exact ⟨⟨k + 1, by simp, by omega, fun j hj h => by rcases Nat.lt_succ_iff_lt_or_eq.1 h with h | h; exact HB.out j hj h; subst h; exact HE.out, trivial⟩, by simp [intOf]; omega⟩
        | false =>
          rw [he] at HP
          have HE := hid (all_not hlt he)
          clear he
          go_wp2_with (go_at_call 161; refine HP.out.mono ?_; rintro e w1 ⟨rfl, rfl⟩)
          go_ret
          exact ⟨k, rfl, by rw [HE.out]; simp, rfl⟩
      · have HE := hid (all_upto hlt (fun j hj h => HB.out j hj h))
        clear hc1
        go_wp2
        go_ret
        exact ⟨-1, rfl, by rw [HE.out]; rfl, rfl⟩
  · obtain rfl : p = [] := List.eq_nil_of_length_eq_zero (by omega)
    clear h
    go_enter Tryz.func72, Tryz.ntmps72
    go_wp2
    refine wp_loop_rounds 1 ?_
    rw [rounds_succ]
    go_wp2
    go_ret
    exact ⟨-1, rfl, rfl, rfl⟩
set_option maxHeartbeats 1000000 in
theorem contains_any (a : Option Addr) (c : Nat) (p : List ByteArray) (w : World) (h : StrsAt w a c p) :
    Calls Tryz.prog 31 #[.slice a p.length c, .func (.func 161) #[] #[]] w fun e w' => e = .returned (.bool (!(p.all partOk))) ∧ w = w' := by
  have HI := hid (index_any a c p w h)
  clear h
  go_enter Tryz.func31, Tryz.ntmps31
  go_wp2_with (go_at_call 72; refine HI.out.mono ?_; rintro e w1 ⟨v, rfl, hv, rfl⟩; have HV := hid hv; clear hv)
  go_ret
  exact ⟨ret_bool HV.out, rfl⟩

/-- file's 'fail'. -/
theorem fail_pass (b : Nat) (i : Int) (e5 : Int) (t : TypeId) (w : World) (h : Blk w b #[.int .i64 i] t) :
    Calls Tryz.prog 160 #[.bool false, .int .i64 e5, .pointer (some ⟨b, 0, none⟩)] w fun e w' => e = .returned (.tuple #[]) ∧ w = w' := by
  obtain ⟨h1, -, -⟩ := h.one
  clear h
  go_enter Tryz.func160, Tryz.ntmps160
  go_wp2
  go_end0
  exact ⟨rfl, rfl⟩
/-- What a list's first fault is told by. -/
def told (i e : Int) : List PanicEntry := [{ v := .iface 195 (.agg #[.int .i64 i, .int .i64 e]), recovered := false }]
theorem fail_raise (b : Nat) (i : Int) (e5 : Int) (t : TypeId) (w : World) (h : Blk w b #[.int .i64 i] t) :
    Calls Tryz.prog 160 #[.bool true, .int .i64 e5, .pointer (some ⟨b, 0, none⟩)] w fun e w' => e = .panicked (told i e5) ∧ w = w' := by
  obtain ⟨h1, -, -⟩ := h.one
  clear h
  go_enter Tryz.func160, Tryz.ntmps160
  go_wp2
  exact ⟨rfl, rfl, rfl⟩
end Go.Proofs.YtnhgichiedninaaGreatDoor

namespace Go.Proofs.YtnhgichiedninaaGreatDoor
set_option linter.unusedSimpArgs false
set_option linter.unusedVariables false
open Go.RowKit

theorem prefix_upto {p q : List ByteArray} (hl : p.length ≤ q.length) (h : ∀ (j : Nat) (h1 : j < p.length) (h2 : j < q.length), q[j] = p[j]) : p <+: q := by
  rw [List.prefix_iff_eq_take]
  apply List.ext_getElem
  · simp; omega
  · intro j h1 h2
    simp at h2
    simp [h j h1 (by omega)]
theorem prefix_not {p q : List ByteArray} {j : Nat} (h1 : j < p.length) (h2 : j < q.length) (h : q[j] ≠ p[j]) : ¬ p <+: q := by
  intro hp
  exact h (List.IsPrefix.getElem hp h1).symm

set_option maxHeartbeats 1000000 in
theorem within_any (a b : Option Addr) (c d : Nat) (p q : List ByteArray) (w : World) (hp : StrsAt w a c p) (hq : StrsAt w b d q) :
    Calls Tryz.prog 135 #[.slice a p.length c, .slice b q.length d] w fun e w' => e = .returned (.bool (decide (p <+: q))) ∧ w = w' := by
  have hm1 := hp.room; have hm2 := hp.cap; have hm3 := hq.room; have hm4 := hq.cap
  unfold maxLen at hm2 hm4
  by_cases hl : p.length ≤ q.length
  · by_cases hz : 0 < p.length
    · obtain ⟨b1, o1, rfl, hb1, hc1⟩ := hp.get hz
      obtain ⟨b2, o2, rfl, hb2, hc2⟩ := hq.get (by omega)
      have HP := hid (And.intro hp hq)
      clear hp hq
      go_enter Tryz.func135, Tryz.ntmps135
      go_wp2
      go_loopw [14] (fun i wr => ∃ k : Nat, i = .int .i64 k ∧ k ≤ p.length ∧ (∀ (j : Nat) (h1 : j < p.length) (h2 : j < q.length), j < k → q[j] = p[j]) ∧ wr = w) (fun i _ => p.length - (intOf i).toNat)
      case atStart => exact ⟨0, rfl, by omega, by intros; omega, rfl⟩
      case round =>
        obtain ⟨k, rfl, hk, hb, rfl⟩ := hrel
        have HB := hid hb
        clear hb
        by_cases hlt : k < p.length
        · have g1 := hc1 k hlt
          have g2 := hc2 k (by omega)
          have HC1 := hid hc1; have HC2 := hid hc2
          clear hc1 hc2
          by_cases he : q[k] = p[k]
          · have hb2 : (q[k].toList == p[k].toList) = true := by rw [two_eq, decide_eq_true he]
            have HE := hid he
            clear he
            go_wp2
            exact ⟨⟨k + 1, by simp, by omega, fun j h1 h2 hj => by rcases Nat.lt_succ_iff_lt_or_eq.1 hj with h | h; exact HB.out j h1 h2 h; subst h; exact HE.out, trivial⟩, by simp [intOf]; omega⟩
          · have hb2 : (q[k].toList == p[k].toList) = false := by rw [two_eq, decide_eq_false he]
            have HE := hid (prefix_not hlt (by omega) he)
            clear he
            go_wp2
            go_ret
            exact ⟨ret_bool (decide_eq_false HE.out).symm, rfl⟩
        · have HE := hid (prefix_upto hl (fun j h1 h2 => HB.out j h1 h2 (by omega)))
          clear hc1 hc2
          go_wp2
          go_ret
          exact ⟨ret_bool (decide_eq_true HE.out).symm, rfl⟩
    · obtain rfl : p = [] := List.eq_nil_of_length_eq_zero (by omega)
      clear hp hq
      go_enter Tryz.func135, Tryz.ntmps135
      go_wp2
      refine wp_loop_rounds 1 ?_
      rw [rounds_succ]
      go_wp2
      go_ret
      exact ⟨ret_bool (decide_eq_true (List.nil_prefix)).symm, rfl⟩
  · have HE := hid (show ¬ p <+: q from fun h => hl h.length_le)
    clear hp hq
    go_enter Tryz.func135, Tryz.ntmps135
    go_wp2
    go_ret
    exact ⟨ret_bool (decide_eq_false HE.out).symm, rfl⟩

theorem eq_upto {p q : List ByteArray} (hl : p.length = q.length) (h : ∀ (j : Nat) (h1 : j < p.length) (h2 : j < q.length), p[j] = q[j]) : p = q :=
  List.ext_getElem hl h
theorem eq_not {p q : List ByteArray} {j : Nat} (h1 : j < p.length) (h2 : j < q.length) (h : p[j] ≠ q[j]) : p ≠ q := by
  rintro rfl
  exact h rfl
set_option maxHeartbeats 1000000 in
theorem equal_any (a b : Option Addr) (c d : Nat) (p q : List ByteArray) (w : World) (hp : StrsAt w a c p) (hq : StrsAt w b d q) :
    Calls Tryz.prog 163 #[.slice a p.length c, .slice b q.length d] w fun e w' => e = .returned (.bool (decide (p = q))) ∧ New w w' := by
  have hm1 := hp.room; have hm2 := hp.cap; have hm3 := hq.room; have hm4 := hq.cap
  unfold maxLen at hm2 hm4
  by_cases hl : p.length = q.length
  · by_cases hz : 0 < p.length
    · obtain ⟨b1, o1, rfl, hb1, hc1⟩ := hp.get hz
      obtain ⟨b2, o2, rfl, hb2, hc2⟩ := hq.get (by omega)
      have HP := hid (And.intro hp hq)
      have HL := hid hl
      rw [← hl]
      clear hp hq hl
      go_enter Tryz.func163, Tryz.ntmps163
      go_wp2
      go_loopw [13] (fun i wr => ∃ k : Nat, i = .int .i64 k ∧ k ≤ p.length ∧ (∀ (j : Nat) (h1 : j < p.length) (h2 : j < q.length), j < k → p[j] = q[j]) ∧ ∃ n, wr = w.drewN n) (fun i _ => p.length - (intOf i).toNat)
      case atStart => exact ⟨0, rfl, by omega, by intros; omega, 0, rfl⟩
      case round =>
        obtain ⟨k, rfl, hk, hb, n, rfl⟩ := hrel
        have HB := hid hb
        clear hb
        by_cases hlt : k < p.length
        · have hlt2 : k < q.length := by have := HL.out; omega
          have g1 := hc1 k hlt
          have g2 := hc2 k hlt2
          have HC1 := hid hc1; have HC2 := hid hc2
          clear hc1 hc2
          by_cases he : p[k] = q[k]
          · have hb2 : (p[k].toList == q[k].toList) = true := by rw [two_eq, decide_eq_true he]
            have HE := hid he
            clear he
            go_wp2_with fail
            go_region
            go_wp2
            exact ⟨⟨k + 1, by simp, by omega, fun j h1 h2 hj => by rcases Nat.lt_succ_iff_lt_or_eq.1 hj with h | h; exact HB.out j h1 h2 h; subst h; exact HE.out, n + 1, rfl⟩, by simp [intOf]; omega⟩
          · have hb2 : (p[k].toList == q[k].toList) = false := by rw [two_eq, decide_eq_false he]
            have HE := hid (eq_not hlt hlt2 he)
            clear he
            go_wp2_with fail
            go_region
            go_wp2
            go_ret
            exact ⟨ret_bool (decide_eq_false HE.out).symm, (Mod.refl _ _).drewN n |>.drew⟩
        · have HE := hid (eq_upto HL.out (fun j h1 h2 => HB.out j h1 h2 (by omega)))
          clear hc1 hc2
          go_wp2
          go_ret
          exact ⟨ret_bool (decide_eq_true HE.out).symm, (Mod.refl _ _).drewN n⟩
    · obtain rfl : p = [] := List.eq_nil_of_length_eq_zero (by omega)
      obtain rfl : q = [] := List.eq_nil_of_length_eq_zero (by simpa using hl.symm)
      clear hp hq
      go_enter Tryz.func163, Tryz.ntmps163
      go_wp2
      refine wp_loop_rounds 1 ?_
      rw [rounds_succ]
      go_wp2
      go_ret
      exact ⟨ret_bool (by simp), Mod.refl _ _⟩
  · have HE := hid (show p ≠ q from fun h => hl (by rw [h]))
    clear hp hq
    go_enter Tryz.func163, Tryz.ntmps163
    go_wp2
    go_ret
    exact ⟨ret_bool (decide_eq_false HE.out).symm, Mod.refl _ _⟩
end Go.Proofs.YtnhgichiedninaaGreatDoor

namespace Go.Proofs.YtnhgichiedninaaGreatDoor
set_option linter.unusedSimpArgs false
set_option linter.unusedVariables false
open Go.RowKit

theorem itoa_one {m : Nat} (h : m < 10) : itoaB (m : Int) = ⟨#[UInt8.ofNat (48 + m)]⟩ := by
  unfold itoaB Lib.itoa
  rw [if_neg (by omega), Lib.decDigits, dif_pos (by simpa using h)]
  simp
theorem itoa_more {m : Nat} (h : ¬ m < 10) : itoaB (m : Int) = itoaB ((m / 10 : Nat) : Int) ++ ⟨#[UInt8.ofNat (48 + m % 10)]⟩ := by
  apply bytes_ext
  unfold itoaB Lib.itoa
  rw [if_neg (by omega), Lib.decDigits, dif_neg (by simpa using h), if_neg (by omega)]
  have : ((m / 10 : Nat) : Int).toNat = m / 10 := Int.toNat_natCast _
  rw [this]
  simp

theorem itoa_size {n : Int} (h0 : -9223372036854775808 ≤ n) (h1 : n ≤ 9223372036854775807) : (itoaB n).size ≤ 21 := by
  have := Lib.itoa_length_le n h0 h1
  show (Lib.itoa n).toArray.size ≤ 21
  simpa using this
theorem ret_str {a b : ByteArray} (h : a = b) : Ending.returned (.string a) = .returned (.string b) := by rw [h]
theorem one_byte (w : World) (v : Int) : (convert 83 9 (.slice (some ⟨w.heap.size, 0, none⟩) 1 1)).run Tryz.prog (w.alloc (.cells #[.int .u8 v] 5)) = .ok (.string ⟨#[UInt8.ofNat v.toNat]⟩) (w.alloc (.cells #[.int .u8 v] 5)) := by
  have := run_convert_bytes_arg (P := Tryz.prog) (w.alloc (.cells #[.int .u8 v] 5)) 83 5 Tryz.underlying83 Tryz.underlying5 w.heap.size 0 1 1 [v] rfl (fun i hi => by
    obtain rfl : i = 0 := by omega
    exact (Blk.new w #[.int .u8 v] 5).cellv 0 rfl) 9 Tryz.underlying9
  rw [this]
  rfl

set_option maxRecDepth 100000 in
set_option maxHeartbeats 1000000 in
theorem decimal_nat (m : Nat) : (m : Int) ≤ 9223372036854775807 → ∀ w : World, Calls Tryz.prog 155 #[.int .i64 m] w fun e w' => e = .returned (.string (itoaB m)) ∧ New w w' := by
  induction m using Nat.strongRecOn with
  | ind m ih =>
    intro hm w
    have hcv := one_byte w (48 + (m : Int) % 10)
    have h48 : (48 + (m : Int) % 10).toNat = 48 + m % 10 := by omega
    by_cases h : m < 10
    · have HI := hid (itoa_one h)
      have hmm : m % 10 = m := by omega
      have HM := hid (And.intro h48 hmm)
      clear ih h48 hmm
      go_enter Tryz.func155, Tryz.ntmps155
      go_wp2
      go_ret
      exact ⟨ret_str (by rw [HI.out, HM.out.2]), (Mod.refl _ _).alloc _⟩
    · have e10 : ((m / 10 : Nat) : Int) = (m : Int) / 10 := by omega
      have HI := hid (itoa_more h)
      have HM := hid h48
      have IH := hid (ih (m / 10) (by omega) (by omega))
      rw [e10] at HI IH
      have hs1 := itoa_size (n := (m : Int) / 10) (by omega) (by omega)
      have hs2 : (⟨#[48 + UInt8.ofNat (m % 10)]⟩ : ByteArray).size = 1 := rfl
      clear ih h48 e10
      go_enter Tryz.func155, Tryz.ntmps155
      go_wp2_with (go_at_call 155; refine (IH.out _).mono ?_; rintro e w1 ⟨rfl, h1⟩; have H1 := hid h1; clear h1)
      go_ret
      exact ⟨ret_str (by rw [HI.out]; simp), ((Mod.refl _ _).alloc _).trans H1.out⟩

theorem itoa_small {m : Nat} (h0 : 0 < m) (h : m < 10) : itoaB (-(m : Int)) = ⟨#[45]⟩ ++ itoaB m := by
  apply bytes_ext
  rw [show (-(m : Int)) = -((m : Nat) : Int) from rfl]
  simp [itoaB, Lib.itoa_neg m (by omega), Lib.itoa_nonneg m]
theorem itoa_great {m : Nat} (h : ¬ m < 10) : itoaB (-(m : Int)) = itoaB (-((m / 10 : Nat) : Int)) ++ itoaB ((m % 10 : Nat) : Int) := by
  apply bytes_ext
  unfold itoaB
  rw [Lib.itoa_neg m (by omega), Lib.itoa_neg (m / 10) (by omega), Lib.itoa_nonneg, Lib.decDigits, dif_neg (by simpa using h), Lib.decDigits_one (show m % 10 < 10 by omega)]
  simp

set_option maxRecDepth 100000 in
set_option maxHeartbeats 1000000 in
theorem decimal_neg (m : Nat) : 0 < m → (m : Int) ≤ 9223372036854775808 → ∀ w : World, Calls Tryz.prog 155 #[.int .i64 (-(m : Int))] w fun e w' => e = .returned (.string (itoaB (-(m : Int)))) ∧ New w w' := by
  induction m using Nat.strongRecOn with
  | ind m ih =>
    intro h0 hm w
    have hq : (-(m : Int)).tdiv 10 = -((m / 10 : Nat) : Int) := by
      rw [Int.neg_tdiv, Int.tdiv_eq_ediv_of_nonneg (by omega)]; simp
    by_cases h : m < 10
    · have HI := hid (itoa_small h0 h)
      have hz : (m : Int) / 10 = 0 := by omega
      have IH := hid (decimal_nat m (by omega))
      have hs1 := itoa_size (n := (m : Int)) (by omega) (by omega)
      clear ih hq
      go_enter Tryz.func155, Tryz.ntmps155
      go_wp2_with (go_at_call 155; refine (IH.out _).mono ?_; rintro e w1 ⟨rfl, h1⟩; have H1 := hid h1; clear h1)
      go_ret
      exact ⟨ret_str HI.out.symm, H1.out⟩
    · have e10 : ((m / 10 : Nat) : Int) = (m : Int) / 10 := by omega
      have e11 : ((m % 10 : Nat) : Int) = (m : Int) % 10 := by omega
      have HI := hid (itoa_great h)
      have hnz : (-((m : Int) / 10) == 0) = false := by simp; omega
      have hb : -922337203685477581 ≤ -((m : Int) / 10) ∧ -((m : Int) / 10) < 0 := by omega
      have IH := hid (ih (m / 10) (by omega) (by omega) (by omega))
      have IH2 := hid (decimal_nat (m % 10) (by omega))
      rw [e10] at IH HI
      rw [e11] at IH2 HI
      have hs1 := itoa_size (n := -((m : Int) / 10)) (by omega) (by omega)
      have hs2 := itoa_size (n := (m : Int) % 10) (by omega) (by omega)
      have tok : True := trivial
      clear ih hq e10 e11
      go_enter Tryz.func155, Tryz.ntmps155
      go_wp2_with (first | (go_at_call 155; have tk := tok; clear tok; refine (IH.out _).mono ?_; rintro e w1 ⟨rfl, h1⟩; have H1 := hid h1; clear h1) | (go_at_call 155; refine (IH2.out _).mono ?_; rintro e w2 ⟨rfl, h2⟩; have H2 := hid h2; clear h2))
      go_ret
      exact ⟨ret_str HI.out.symm, H1.out.trans H2.out⟩
/-- Decimal writes a number as the program does. -/
theorem decimal_any (n : Int) (h0 : -9223372036854775808 ≤ n) (h1 : n ≤ 9223372036854775807) (w : World) : Calls Tryz.prog 155 #[.int .i64 n] w fun e w' => e = .returned (.string (itoaB n)) ∧ New w w' := by
  by_cases h : 0 ≤ n
  · obtain ⟨m, rfl⟩ := Int.eq_ofNat_of_zero_le h
    exact decimal_nat m h1 w
  · obtain ⟨m, rfl⟩ : ∃ m : Nat, n = -(m : Int) := ⟨n.natAbs, by omega⟩
    exact decimal_neg m (by omega) (by omega) w
end Go.Proofs.YtnhgichiedninaaGreatDoor
