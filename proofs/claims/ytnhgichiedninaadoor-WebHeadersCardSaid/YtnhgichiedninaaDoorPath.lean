/-
  Path, the library's Itoa, and the table that it reads; the closures of file; ContainsFunc. Conditions: the table is as its initialiser lays it; a path's text is no longer than 2^47 bytes.
-/
import Derived.Test.YtnhgichiedninaaDoorMem5
import Derived.Test.YtnhgichiedninaaDoorPa
import Derived.Test.YtnhgichiedninaaDoorShelf
import Derived.Test.YtnhgichiedninaaDoorQuiet
namespace Go.Proofs.YtnhgichiedninaaDoor
set_option linter.unusedSimpArgs false
set_option linter.unusedVariables false
open Go.RowKit

/-- The table of the library's Itoa is as it was laid. -/
def Tab (w : World) : Prop := Lib.TabIs Tryd.prog w "internal/strconv.uint64pow10" .u64 Lib.pow10Tab
theorem Tab.new {w w' : World} (h : Tab w) (hn : New w w') : Tab w' := by
  unfold Tab Lib.TabIs World.var? at *
  cases hg : Tryd.prog.globalNamed "internal/strconv.uint64pow10" with
  | none => rw [hg] at h; simp at h
  | some g =>
    rw [hg] at h
    simp only [Option.bind_some] at h ⊢
    have hlt : g < w.heap.size := by
      rcases Nat.lt_or_ge g w.heap.size with h' | h'
      · exact h'
      · simp [Array.getElem?_eq_none h'] at h
    rw [hn.block g hlt (fun x => x)]
    exact h
theorem New.of_below {w w' : World} (h : Below w.heap.size w w') : New w w' :=
  ⟨h.os, h.tape, h.output, h.size, fun k hk _ => h.block k hk⟩
theorem itoa_any (n : Int) (h0 : -9223372036854775808 ≤ n) (h1 : n ≤ 9223372036854775807) (w : World) (ht : Tab w) :
    Calls Tryd.prog 22 #[.int .i64 n] w fun e w' => e = .returned (.string (itoaB n)) ∧ New w w' := by
  refine (Tryd.strconv_Itoa n h0 h1 w ht).mono ?_
  rintro e w' ⟨rfl, k, os, rfl⟩
  refine ⟨rfl, (Mod.drewN (Mod.refl _ _) k).trans ⟨rfl, rfl, rfl, by simp, fun i hi _ => Sort.heap_grow_old (w.drewN k) os hi⟩⟩
theorem join_any (a : Option Addr) (c : Nat) (p : List ByteArray) (w : World) (h : StrsAt w a c p) (hl : p.length ≤ 140737488355328) (hb : (joinB p).size ≤ 140737488355328) :
    Calls Tryd.prog 44 #[.slice a p.length c, .string ⟨#[47]⟩] w fun e w' => e = .returned (.string (joinB p)) ∧ New w w' := by
  have hb' : (Lib.join (p.map (·.data.toList)) [47]).length ≤ 140737488355328 := by
    have : (joinB p).size = (Lib.join (p.map (·.data.toList)) [47]).toArray.size := rfl
    rw [this] at hb
    simpa using hb
  rcases h.at' with rfl | ⟨b, o, rfl, hlt, hc⟩
  · refine (Tryd.strings_Join_none a c _ w).mono ?_
    rintro e w' ⟨rfl, rfl⟩
    exact ⟨rfl, Mod.refl _ _⟩
  · refine (Tryd.strings_Join b o c p ⟨#[47]⟩ w hc hlt hl h.room hb').mono ?_
    rintro e w' ⟨rfl, hn⟩
    exact ⟨rfl, New.of_below hn⟩
set_option maxHeartbeats 1000000 in
theorem path_any (a : Option Addr) (c : Nat) (p : List ByteArray) (w : World) (h : StrsAt w a c p) (hl : p.length ≤ 140737488355328) (hb : (joinB p).size ≤ 140737488355328) :
    Calls Tryd.prog 26 #[.slice a p.length c] w fun e w' => e = .returned (.string (joinB p)) ∧ New w w' := by
  have HJ := hid (join_any a c p w h hl hb)
  clear h hl hb
  go_enter Tryd.func26, Tryd.ntmps26
  go_wp2_with (go_at_call 44; refine HJ.out.mono ?_; rintro e w1 ⟨rfl, h1⟩; have H1 := hid h1; clear h1)
  go_ret
  exact ⟨rfl, H1.out⟩

/-- The closure that file hands to ContainsFunc. -/
theorem notPart_any (s : ByteArray) (w : World) (hs : s.size ≤ maxLen) :
    Calls Tryd.prog 83 #[.string s] w fun e w' => e = .returned (.bool (!partOk s)) ∧ w = w' := by
  go_enter Tryd.func83, Tryd.ntmps83
  go_wp2_with (go_at_call 84; refine (part_any s w hs).mono ?_; rintro e w1 ⟨rfl, rfl⟩)
  go_ret
  exact ⟨rfl, rfl⟩
theorem all_upto {p : List ByteArray} {k : Nat} (hk : ¬ k < p.length) (h : ∀ (j : Nat) (hj : j < p.length), j < k → partOk p[j] = true) : p.all partOk = true := by
  rw [List.all_eq_true]
  intro x hx
  obtain ⟨j, hj, rfl⟩ := List.mem_iff_getElem.1 hx
  exact h j hj (by omega)
theorem all_not {p : List ByteArray} {k : Nat} (hk : k < p.length) (h : partOk p[k] = false) : p.all partOk = false := by
  rw [List.all_eq_false]
  exact ⟨_, List.getElem_mem hk, by simp [h]⟩
set_option maxHeartbeats 1000000 in
theorem index_any (a : Option Addr) (c : Nat) (p : List ByteArray) (w : World) (h : StrsAt w a c p) :
    Calls Tryd.prog 100 #[.slice a p.length c, .func (.func 83) #[] #[]] w fun e w' => ∃ v : Int, e = .returned (.int .i64 v) ∧ decide (v ≥ 0) = !(p.all partOk) ∧ w = w' := by
  have hm1 := h.room; have hm2 := h.cap
  unfold maxLen at hm2
  by_cases hz : 0 < p.length
  · obtain ⟨b1, o1, rfl, hb1, hc1⟩ := h.get hz
    have HS := hid h.small
    clear h
    go_enter Tryd.func100, Tryd.ntmps100
    go_wp2
    go_loopw [8] (fun i wr => ∃ k : Nat, i = .int .i64 k ∧ k ≤ p.length ∧ (∀ (j : Nat) (hj : j < p.length), j < k → partOk p[j] = true) ∧ wr = w) (fun i _ => p.length - (intOf i).toNat)
    case atStart => exact ⟨0, rfl, by omega, by intros; omega, rfl⟩
    case round =>
      obtain ⟨k, rfl, hk, hb, rfl⟩ := hrel
      have HB := hid hb
      clear hb
      by_cases hlt : k < p.length
      · have g1 := hc1 k hlt
        have HC1 := hid hc1
        clear hc1
        have hsz : (p[k]).size ≤ maxLen := HS.out _ (List.getElem_mem hlt)
        have HP := hid (notPart_any p[k] wr hsz)
        clear hsz
        cases he : partOk p[k] with
        | true =>
          rw [he] at HP
          have HE := hid he
          clear he
          go_wp2_with (go_at_call 83; refine HP.out.mono ?_; rintro e w1 ⟨rfl, rfl⟩)
          exact ⟨⟨k + 1, by simp, by omega, fun j hj h => by rcases Nat.lt_succ_iff_lt_or_eq.1 h with h | h; exact HB.out j hj h; subst h; exact HE.out, trivial⟩, by simp [intOf]; omega⟩
        | false =>
          rw [he] at HP
          have HE := hid (all_not hlt he)
          clear he
          go_wp2_with (go_at_call 83; refine HP.out.mono ?_; rintro e w1 ⟨rfl, rfl⟩)
          go_ret
          exact ⟨k, rfl, by rw [HE.out]; simp, rfl⟩
      · have HE := hid (all_upto hlt (fun j hj h => HB.out j hj h))
        clear hc1
        go_wp2
        go_ret
        exact ⟨-1, rfl, by rw [HE.out]; rfl, rfl⟩
  · obtain rfl : p = [] := List.eq_nil_of_length_eq_zero (by omega)
    clear h
    go_enter Tryd.func100, Tryd.ntmps100
    go_wp2
    refine wp_loop_rounds 1 ?_
    rw [rounds_succ]
    go_wp2
    go_ret
    exact ⟨-1, rfl, rfl, rfl⟩
set_option maxHeartbeats 1000000 in
theorem contains_any (a : Option Addr) (c : Nat) (p : List ByteArray) (w : World) (h : StrsAt w a c p) :
    Calls Tryd.prog 82 #[.slice a p.length c, .func (.func 83) #[] #[]] w fun e w' => e = .returned (.bool (!(p.all partOk))) ∧ w = w' := by
  have HI := hid (index_any a c p w h)
  clear h
  go_enter Tryd.func82, Tryd.ntmps82
  go_wp2_with (go_at_call 100; refine HI.out.mono ?_; rintro e w1 ⟨v, rfl, hv, rfl⟩; have HV := hid hv; clear hv)
  go_ret
  exact ⟨ret_bool HV.out, rfl⟩

/-- file's 'fail'. -/
theorem fail_pass (b : Nat) (i : Int) (e5 : Int) (t : TypeId) (w : World) (h : Blk w b #[.int .i64 i] t) :
    Calls Tryd.prog 81 #[.bool false, .int .i64 e5, .pointer (some ⟨b, 0, none⟩)] w fun e w' => e = .returned (.tuple #[]) ∧ w = w' := by
  obtain ⟨h1, -, -⟩ := h.one
  clear h
  go_enter Tryd.func81, Tryd.ntmps81
  go_wp2
  go_end0
  exact ⟨rfl, rfl⟩
/-- What a list's first fault is told by. -/
def told (i e : Int) : List PanicEntry := [{ v := .iface 79 (.agg #[.int .i64 i, .int .i64 e]), recovered := false }]
theorem fail_raise (b : Nat) (i : Int) (e5 : Int) (t : TypeId) (w : World) (h : Blk w b #[.int .i64 i] t) :
    Calls Tryd.prog 81 #[.bool true, .int .i64 e5, .pointer (some ⟨b, 0, none⟩)] w fun e w' => e = .panicked (told i e5) ∧ w = w' := by
  obtain ⟨h1, -, -⟩ := h.one
  clear h
  go_enter Tryd.func81, Tryd.ntmps81
  go_wp2
  exact ⟨rfl, rfl, rfl⟩
end Go.Proofs.YtnhgichiedninaaDoor
