/-
  Several texts in one, in their build order. The walks of Wrong (whole), Valid, total, Total, Piece, of package files; of total and Piece of the reference. Conditions: the list lies as told; the library's table is as laid. Addresses of web seeds told in plain words: which texts are seeds, how bytes stand in an address, a file's address. Plain Lean, no program. No condition.
-/
import Derived.Test.YtnhgichiedninaaGreatDoorM31
import Derived.Lib.Strings
namespace Go.Proofs.YtnhgichiedninaaGreatDoor
set_option linter.unusedSimpArgs false
set_option linter.unusedVariables false
open Go.RowKit

theorem wrong_any (a : Option Addr) (c : Nat) (l : List FileV) (w : World) (h : FilesAt w a c l) (ht : Tab w) :
    Calls Tryz.prog 94 #[.slice a l.length c] w fun e w' => e = .returned (.tuple #[.int .i64 (wrongOf l).1, .int .i64 (wrongOf l).2]) ∧ New w w' := by
  by_cases hl : l.length = 0 ∨ 40 < l.length
  · have e : wrongOf l = (0, 4) := by unfold wrongOf; rw [if_pos hl]
    rw [e]
    have := h.room; have := h.cap
    unfold maxLen at *
    exact wrong_limit a l.length c w (by omega) hl
  · have e : wrongOf l = goA (l.length - 1) 0 [] [] 0 l := by unfold wrongOf; rw [if_neg hl]
    rw [e]
    exact wrong_go a c l w h ht (by omega) (by omega)
set_option maxHeartbeats 1000000 in
theorem valid_any (a : Option Addr) (c : Nat) (l : List FileV) (w : World) (h : FilesAt w a c l) (ht : Tab w) :
    Calls Tryz.prog 64 #[.slice a l.length c] w fun e w' => e = .returned (.bool (validOf l)) ∧ New w w' := by
  have HW := hid (wrong_any a c l w h ht)
  clear h ht
  go_enter Tryz.func64, Tryz.ntmps64
  go_wp2_with (go_at_call 94; refine HW.out.mono ?_; rintro e w1 ⟨rfl, h1⟩; have H1 := hid h1; clear h1)
  go_ret
  refine ⟨ret_bool ?_, H1.out⟩
  rw [validOf, Bool.eq_iff_iff]
  simp

def sumOf (l : List FileV) : Int := (l.map (·.len)).sum
theorem sum_next {l : List FileV} {k : Nat} (h : k < l.length) : sumOf (l.take (k + 1)) = sumOf (l.take k) + l[k].len := by
  unfold sumOf
  rw [List.take_add_one, List.getElem?_eq_getElem h]
  simp only [Option.toList, List.map_append, List.map_cons, List.map_nil, List.sum_append, List.sum_cons, List.sum_nil]
  omega
theorem sum_mono : ∀ (l : List FileV), (∀ f ∈ l, 0 ≤ f.len) → ∀ k, 0 ≤ sumOf (l.take k) ∧ sumOf (l.take k) ≤ sumOf l
  | [], _, k => by simp [sumOf]
  | f :: r, h, 0 => by
    have := sum_mono r (fun g hg => h g (.tail _ hg)) r.length
    have := h f (.head _)
    simp only [List.take_length, sumOf, List.take_zero, List.map_nil, List.sum_nil, List.map_cons, List.sum_cons] at *
    omega
  | f :: r, h, k + 1 => by
    have := sum_mono r (fun g hg => h g (.tail _ hg)) k
    have := h f (.head _)
    simp only [sumOf, List.take_succ_cons, List.map_cons, List.sum_cons] at *
    omega

set_option maxRecDepth 100000 in
set_option maxHeartbeats 1000000 in
theorem total_any (a : Option Addr) (c : Nat) (l : List FileV) (w : World) (h : FilesAt w a c l) (hp : ∀ f ∈ l, 0 ≤ f.len) (hb : sumOf l ≤ 4611686018427387904) :
    Calls Tryz.prog 222 #[.slice a l.length c] w fun e w' => e = .returned (.int .i64 (sumOf l)) ∧ New w w' := by
  have hm1 := h.room; have hm2 := h.cap
  unfold maxLen at hm2
  have HM := hid (sum_mono l hp)
  have HB := hid hb
  clear hp hb
  by_cases hz : 0 < l.length
  · obtain ⟨b1, o1, rfl, hb1, hc1⟩ := h.get hz
    have HC1 := hid hc1
    clear h hc1
    go_enter Tryz.func222, Tryz.ntmps222
    go_wp2
    go_loopw [8, 3] (fun i n wr => ∃ k : Nat, i = .int .i64 k ∧ n = .int .i64 (sumOf (l.take k)) ∧ k ≤ l.length ∧ New w wr) (fun i _ _ => l.length - (intOf i).toNat)
    case atStart => exact ⟨0, rfl, rfl, by omega, Mod.refl _ _⟩
    case round =>
      obtain ⟨k, rfl, rfl, hk, hn⟩ := hrel
      have HN := hid hn
      by_cases hlt : k < l.length
      · obtain ⟨pa, pc, g0, g1, g2, -, g3⟩ := (HC1.out k hlt).new hn
        clear hn
        have HS := hid (sum_next hlt)
        obtain ⟨f, hf⟩ : ∃ f, f = l[k] := ⟨_, rfl⟩
        rw [← hf] at g0 g1 g2 g3 HS
        clear hf
        have q1 := (HM.out k).1
        have q2 := (HM.out (k + 1)).1
        have q3 := (HM.out (k + 1)).2
        rw [HS.out] at q2 q3
        have q4 := HB.out
        clear q3
        have q3 : sumOf (l.take k) + f.len ≤ 4611686018427387904 := by have := (HM.out (k + 1)).2; rw [HS.out] at this; omega
        clear q4
        go_wp2
        exact ⟨⟨k + 1, by simp, by rw [HS.out], by omega, HN.out.alloc _⟩, by simp [intOf]; omega⟩
      · have hkl : l.take k = l := List.take_of_length_le (by omega)
        rw [hkl]
        clear hkl
        go_wp2
        go_ret
        exact ⟨rfl, HN.out⟩
  · obtain rfl : l = [] := List.eq_nil_of_length_eq_zero (by omega)
    clear h
    go_enter Tryz.func222, Tryz.ntmps222
    go_wp2
    refine wp_loop_rounds 1 ?_
    rw [rounds_succ]
    go_wp2
    go_ret
    exact ⟨rfl, Mod.refl _ _⟩
theorem go_ok (last : Nat) : ∀ (l : List FileV) (i : Nat) (M A : List ByteArray) (tot : Int), (goA last i M A tot l).2 = 0 → (∀ f ∈ l, 0 ≤ f.len) ∧ (0 < l.length → tot + sumOf l ≤ 65536)
  | [], _, _, _, _, _ => ⟨by simp, by simp⟩
  | f :: r, i, M, A, tot, h => by
    unfold goA at h
    cases he : errA M A tot i last f with
    | some e =>
      rw [he] at h
      exfalso
      simp at h
      subst h
      unfold errA at he
      repeat' (split at he <;> try (simp at he))
    | none =>
      rw [he] at h
      obtain ⟨z1, z2⟩ := err_some he
      obtain ⟨y1, y2⟩ := go_ok last r _ _ _ _ h
      refine ⟨fun g hg => ?_, fun _ => ?_⟩
      · cases hg with
        | head => omega
        | tail _ hg => exact y1 g hg
      · simp only [sumOf, List.map_cons, List.sum_cons] at *
        cases r with
        | nil => simp; omega
        | cons x r => have := y2 (by simp); omega
/-- A valid list is short, its lengths are no less than nothing, and together within the bound. -/
theorem valid_facts {l : List FileV} (h : validOf l = true) : 1 ≤ l.length ∧ l.length ≤ 40 ∧ (∀ f ∈ l, 0 ≤ f.len) ∧ sumOf l ≤ 65536 := by
  unfold validOf wrongOf at h
  split at h
  · simp at h
  · next hn =>
    obtain ⟨y1, y2⟩ := go_ok _ l _ _ _ _ (by simpa using h)
    have := y2 (by omega)
    exact ⟨by omega, by omega, y1, by omega⟩
/-- Total. -/
def totalOf (l : List FileV) : Int × Int := if validOf l then (sumOf l, 0) else (0, 1)
/-- Piece. -/
def pieceOf (n : Int) : Bool := decide (n = 16 ∨ n = 32 ∨ n = 64 ∨ n = 128 ∨ n = 256 ∨ n = 512 ∨ n = 1024)
theorem and_all : ∀ m : _root_.Fin 1025, 16 ≤ m.val → (bits BinOp.and IntKind.i64 (m.val : Int) ((m.val : Int) - 1) == 0) = pieceOf m.val := by decide +kernel
theorem and_piece {n : Int} (h1 : 16 ≤ n) (h2 : n ≤ 1024) : (bits BinOp.and IntKind.i64 n (n - 1) == 0) = pieceOf n := by
  obtain ⟨m, rfl⟩ := Int.eq_ofNat_of_zero_le (show 0 ≤ n by omega)
  exact and_all ⟨m, by omega⟩ (by simpa using by omega)
set_option maxRecDepth 100000 in
set_option maxHeartbeats 1000000 in
theorem piece_any (n : Int) (w : World) (h0 : -9223372036854775808 ≤ n) (h1 : n ≤ 9223372036854775807) :
    Calls Tryz.prog 153 #[.int .i64 n] w fun e w' => e = .returned (.bool (pieceOf n)) ∧ w = w' := by
  by_cases p1 : 16 ≤ n
  · by_cases p2 : n ≤ 1024
    · go_enter Tryz.func153, Tryz.ntmps153
      go_wp2
      go_ret
      exact ⟨ret_bool (and_piece p1 p2), rfl⟩
    · have e : pieceOf n = false := by simp only [pieceOf, decide_eq_false_iff_not]; omega
      rw [e]
      clear e
      go_enter Tryz.func153, Tryz.ntmps153
      go_wp2
      go_ret
      exact ⟨rfl, rfl⟩
  · have e : pieceOf n = false := by simp only [pieceOf, decide_eq_false_iff_not]; omega
    rw [e]
    clear e
    go_enter Tryz.func153, Tryz.ntmps153
    go_wp2
    go_ret
    exact ⟨rfl, rfl⟩
set_option maxRecDepth 100000 in
set_option maxHeartbeats 1000000 in
theorem rpiece_any (n : Int) (w : World) (h0 : -9223372036854775808 ≤ n) (h1 : n ≤ 9223372036854775807) :
    Calls Tryz.prog 102 #[.int .i64 n] w fun e w' => e = .returned (.bool (pieceOf n)) ∧ w = w' := by
  go_enter Tryz.func102, Tryz.ntmps102
  go_wp2
  go_loopw [3] (fun i wr => ∃ p : Int, i = .int .i64 p ∧ wr = w ∧ (p = 16 ∨ (p = 32 ∧ n ≠ 16) ∨ (p = 64 ∧ n ≠ 16 ∧ n ≠ 32) ∨ (p = 128 ∧ n ≠ 16 ∧ n ≠ 32 ∧ n ≠ 64) ∨ (p = 256 ∧ n ≠ 16 ∧ n ≠ 32 ∧ n ≠ 64 ∧ n ≠ 128) ∨ (p = 512 ∧ n ≠ 16 ∧ n ≠ 32 ∧ n ≠ 64 ∧ n ≠ 128 ∧ n ≠ 256) ∨ (p = 1024 ∧ n ≠ 16 ∧ n ≠ 32 ∧ n ≠ 64 ∧ n ≠ 128 ∧ n ≠ 256 ∧ n ≠ 512) ∨ (p = 2048 ∧ pieceOf n = false))) (fun i _ => 4096 - (intOf i).toNat)
  case atStart => exact ⟨16, rfl, rfl, .inl rfl⟩
  case round =>
    obtain ⟨p, rfl, rfl, hp⟩ := hrel
    by_cases hlt : p ≤ 1024
    · have hpp : 16 ≤ p := by omega
      by_cases he : p = n
      · have hb : (p == n) = true := by simp [he]
        have HP := hid (show pieceOf n = true by simp only [pieceOf, decide_eq_true_eq]; omega)
        clear hp he
        go_wp2
        go_ret
        exact ⟨ret_bool HP.out.symm, rfl⟩
      · have hb : (p == n) = false := by simp [he]
        have HP := hid hp
        have HE := hid he
        clear hp he
        go_wp2
        refine ⟨⟨p * 2, rfl, trivial, ?_⟩, by simp [intOf]; omega⟩
        have he := HE.out
        rcases HP.out with h | h | h | h | h | h | h | h
        · exact .inr (.inl (by omega))
        · exact .inr (.inr (.inl (by omega)))
        · exact .inr (.inr (.inr (.inl (by omega))))
        · exact .inr (.inr (.inr (.inr (.inl (by omega)))))
        · exact .inr (.inr (.inr (.inr (.inr (.inl (by omega))))))
        · exact .inr (.inr (.inr (.inr (.inr (.inr (.inl (by omega)))))))
        · exact .inr (.inr (.inr (.inr (.inr (.inr (.inr ⟨by omega, by simp only [pieceOf, decide_eq_false_iff_not]; omega⟩))))))
        · omega
    · have HP := hid (show pieceOf n = false by rcases hp with h | h | h | h | h | h | h | h <;> first | omega | exact h.2)
      clear hp
      go_wp2
      go_ret
      exact ⟨ret_bool HP.out.symm, rfl⟩
end Go.Proofs.YtnhgichiedninaaGreatDoor

namespace Go.Proofs.YtnhgichiedninaaGreatDoor
set_option linter.unusedSimpArgs false
set_option linter.unusedVariables false

def httpB : List UInt8 := [104, 116, 116, 112, 58, 47, 47]
def httpsB : List UInt8 := [104, 116, 116, 112, 115, 58, 47, 47]
/-- Is a text a web seed? -/
def validU (u : ByteArray) : Bool := decide (u.size ≤ 200) && (Lib.hasPrefix u.data.toList httpB || Lib.hasPrefix u.data.toList httpsB)
/-- The bytes that stand as they are. -/
def plainB (b : UInt8) : Bool := (decide (97 ≤ b.toNat) && decide (b.toNat ≤ 122)) || (decide (65 ≤ b.toNat) && decide (b.toNat ≤ 90)) || (decide (48 ≤ b.toNat) && decide (b.toNat ≤ 57)) || decide (b = 45) || decide (b = 46) || decide (b = 95) || decide (b = 126) || decide (b = 47)
def hexDigits : List UInt8 := [48, 49, 50, 51, 52, 53, 54, 55, 56, 57, 65, 66, 67, 68, 69, 70]
def hexD (n : Nat) : UInt8 := hexDigits.getD n 0
def escB (b : UInt8) : List UInt8 := if plainB b then [b] else [37, hexD (b.toNat / 16), hexD (b.toNat % 16)]
/-- A text in an address. -/
def escOf (l : List UInt8) : List UInt8 := l.flatMap escB
theorem escB_len (b : UInt8) : (escB b).length ≤ 3 := by
  unfold escB
  split <;> simp
theorem escOf_len : ∀ l : List UInt8, (escOf l).length ≤ 3 * l.length
  | [] => by simp [escOf]
  | b :: l => by
    have h1 := escOf_len l
    have h2 := escB_len b
    unfold escOf at *
    rw [List.flatMap_cons, List.length_append, List.length_cons]
    omega
theorem escOf_next {l : List UInt8} {k : Nat} (h : k < l.length) : escOf (l.take (k + 1)) = escOf (l.take k) ++ escB l[k] := by
  unfold escOf
  rw [List.take_add_one, List.getElem?_eq_getElem h, List.flatMap_append]
  simp
def endsSlash (u : List UInt8) : Bool := Lib.hasSuffix u [47]
/-- A file's address. -/
def urlOf (url name : ByteArray) (l : List FileV) (file : Nat) : List UInt8 :=
  if l.length = 1 ∧ endsSlash url.data.toList = false then url.data.toList
  else (if endsSlash url.data.toList then url.data.toList else url.data.toList ++ [47]) ++ escOf name.data.toList ++ (if l.length = 1 then [] else [47] ++ escOf (joinB ((l[file]?).map (·.path) |>.getD [])).data.toList)
def askedB (url name : ByteArray) (l : List FileV) : Bool := validU url && !decide (name.size = 0) && decide (name.size ≤ 100) && validOf l
/-- What Path answers. -/
def urlErr (url name : ByteArray) (l : List FileV) (file : Int) : Int :=
  if askedB url name l then (if file < 0 ∨ (l.length : Int) ≤ file then 7 else (match l[file.toNat]? with | some f => if f.pad then 10 else 0 | none => 7)) else 1
def urlRes (url name : ByteArray) (l : List FileV) (file : Int) : List UInt8 := if urlErr url name l file = 0 then urlOf url name l file.toNat else []
end Go.Proofs.YtnhgichiedninaaGreatDoor
