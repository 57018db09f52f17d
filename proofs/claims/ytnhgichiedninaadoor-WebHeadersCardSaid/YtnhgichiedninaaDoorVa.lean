/-
  The walks of Wrong (whole), Valid, total, Total, Piece, of package files; of total and Piece of the reference. Conditions: the list lies as told; the library's table is as laid.
-/
import Derived.Test.YtnhgichiedninaaDoorWr
namespace Go.Proofs.YtnhgichiedninaaDoor
set_option linter.unusedSimpArgs false
set_option linter.unusedVariables false
open Go.RowKit

theorem wrong_any (a : Option Addr) (c : Nat) (l : List FileV) (w : World) (h : FilesAt w a c l) (ht : Tab w) :
    Calls Tryd.prog 38 #[.slice a l.length c] w fun e w' => e = .returned (.tuple #[.int .i64 (wrongOf l).1, .int .i64 (wrongOf l).2]) ∧ New w w' := by
  by_cases hl : l.length = 0 ∨ 40 < l.length
  · have e : wrongOf l = (0, 4) := by unfold wrongOf; rw [if_pos hl]
    rw [e]
    have := h.room; have := h.cap
    unfold maxLen at *
    exact wrong_limit a l.length c w (by omega) hl
  · have e : wrongOf l = goA (l.length - 1) 0 [] [] 0 l := by unfold wrongOf; rw [if_neg hl]
    rw [e]
    exact wrong_go a c l w h ht (by omega) (by omega)
set_option maxHeartbeats 1000000 in
theorem valid_any (a : Option Addr) (c : Nat) (l : List FileV) (w : World) (h : FilesAt w a c l) (ht : Tab w) :
    Calls Tryd.prog 23 #[.slice a l.length c] w fun e w' => e = .returned (.bool (validOf l)) ∧ New w w' := by
  have HW := hid (wrong_any a c l w h ht)
  clear h ht
  go_enter Tryd.func23, Tryd.ntmps23
  go_wp2_with (go_at_call 38; refine HW.out.mono ?_; rintro e w1 ⟨rfl, h1⟩; have H1 := hid h1; clear h1)
  go_ret
  refine ⟨ret_bool ?_, H1.out⟩
  rw [validOf, Bool.eq_iff_iff]
  simp

def sumOf (l : List FileV) : Int := (l.map (·.len)).sum
theorem sum_next {l : List FileV} {k : Nat} (h : k < l.length) : sumOf (l.take (k + 1)) = sumOf (l.take k) + l[k].len := by
  unfold sumOf
  rw [List.take_add_one, List.getElem?_eq_getElem h]
  simp only [Option.toList, List.map_append, List.map_cons, List.map_nil, List.sum_append, List.sum_cons, List.sum_nil]
  omega
theorem sum_mono : ∀ (l : List FileV), (∀ f ∈ l, 0 ≤ f.len) → ∀ k, 0 ≤ sumOf (l.take k) ∧ sumOf (l.take k) ≤ sumOf l
  | [], _, k => by simp [sumOf]
  | f :: r, h, 0 => by
    have := sum_mono r (fun g hg => h g (.tail _ hg)) r.length
    have := h f (.head _)
    simp only [List.take_length, sumOf, List.take_zero, List.map_nil, List.sum_nil, List.map_cons, List.sum_cons] at *
    omega
  | f :: r, h, k + 1 => by
    have := sum_mono r (fun g hg => h g (.tail _ hg)) k
    have := h f (.head _)
    simp only [sumOf, List.take_succ_cons, List.map_cons, List.sum_cons] at *
    omega

theorem go_ok (last : Nat) : ∀ (l : List FileV) (i : Nat) (M A : List ByteArray) (tot : Int), (goA last i M A tot l).2 = 0 → (∀ f ∈ l, 0 ≤ f.len) ∧ (0 < l.length → tot + sumOf l ≤ 65536)
  | [], _, _, _, _, _ => ⟨by simp, by simp⟩
  | f :: r, i, M, A, tot, h => by
    unfold goA at h
    cases he : errA M A tot i last f with
    | some e =>
      rw [he] at h
      exfalso
      simp at h
      subst h
      unfold errA at he
      repeat' (split at he <;> try (simp at he))
    | none =>
      rw [he] at h
      obtain ⟨z1, z2⟩ := err_some he
      obtain ⟨y1, y2⟩ := go_ok last r _ _ _ _ h
      refine ⟨fun g hg => ?_, fun _ => ?_⟩
      · cases hg with
        | head => omega
        | tail _ hg => exact y1 g hg
      · simp only [sumOf, List.map_cons, List.sum_cons] at *
        cases r with
        | nil => simp; omega
        | cons x r => have := y2 (by simp); omega
/-- A valid list is short, its lengths are no less than nothing, and together within the bound. -/
theorem valid_facts {l : List FileV} (h : validOf l = true) : 1 ≤ l.length ∧ l.length ≤ 40 ∧ (∀ f ∈ l, 0 ≤ f.len) ∧ sumOf l ≤ 65536 := by
  unfold validOf wrongOf at h
  split at h
  · simp at h
  · next hn =>
    obtain ⟨y1, y2⟩ := go_ok _ l _ _ _ _ (by simpa using h)
    have := y2 (by omega)
    exact ⟨by omega, by omega, y1, by omega⟩
/-- Total. -/
def totalOf (l : List FileV) : Int × Int := if validOf l then (sumOf l, 0) else (0, 1)
/-- Piece. -/
def pieceOf (n : Int) : Bool := decide (n = 16 ∨ n = 32 ∨ n = 64 ∨ n = 128 ∨ n = 256 ∨ n = 512 ∨ n = 1024)
theorem and_all : ∀ m : _root_.Fin 1025, 16 ≤ m.val → (bits BinOp.and IntKind.i64 (m.val : Int) ((m.val : Int) - 1) == 0) = pieceOf m.val := by decide +kernel
theorem and_piece {n : Int} (h1 : 16 ≤ n) (h2 : n ≤ 1024) : (bits BinOp.and IntKind.i64 n (n - 1) == 0) = pieceOf n := by
  obtain ⟨m, rfl⟩ := Int.eq_ofNat_of_zero_le (show 0 ≤ n by omega)
  exact and_all ⟨m, by omega⟩ (by simpa using by omega)
end Go.Proofs.YtnhgichiedninaaDoor
