/-
  Several texts in one, in their build order. The walks of Wrong (whole), Valid, total, Total, Piece, of package files; of total and Piece of the reference. Conditions: the list lies as told; the library's table is as laid. Addresses of web seeds told in plain words: which texts are seeds, how bytes stand in an address, a file's address. Plain Lean, no program. No condition. Contracts of the kit's shelf laid at this program, in plain words, written by the kit's tool. No condition.
-/
import Derived.Test.YtnhgichiedninaaGreatDoorM26
import Derived.Lib.Strings
import Derived.Shelf.Strings.Builder1
import Derived.Shelf.Strings.Builder2
import Derived.Shelf.Strings.OnBuilder
import Derived.Shelf.Small.Utf8
import Derived.Shelf.Small.Bits
import Derived.Shelf.Small.Strs
import Derived.Shelf.Strings.BuilderF
import Derived.Shelf.Strings.BuilderK
import Derived.Shelf.Strconv.Itoa0
import Derived.Shelf.Strconv.Itoa1
import Derived.Shelf.LaysM
import Derived.Shelf.Strconv.Itoa2
import Derived.Shelf.Strconv.Itoa3
import Derived.Shelf.Strings.Search1
import Derived.Shelf.Strings.Search2
import Derived.Shelf.Strings.Search3
import Derived.Shelf.Strings.Shaped
import Derived.Shelf.Strings.Prefix
import Derived.Shelf.Unicode.Latin
import Derived.Shelf.Bits.Mul64
import Derived.Shelf.Strings.Repeat
import Derived.Shelf.Unicode.DecodeSlow
import Derived.Shelf.Unicode.CaseLookup
import Derived.Shelf.Unicode.CaseConvert
import Derived.Shelf.Unicode.CaseTo
import Derived.Shelf.Unicode.CaseLaid
import Derived.Shelf.Slices.Turned
import Derived.Shelf.Slices.Equal
import Derived.Shelf.Slices.Empties2
import Derived.Test.YtnhgichiedninaaGreatDoorProg
namespace Go.Proofs.YtnhgichiedninaaGreatDoor
set_option linter.unusedSimpArgs false
set_option linter.unusedVariables false
open Go.RowKit

theorem wrong_any (a : Option Addr) (c : Nat) (l : List FileV) (w : World) (h : FilesAt w a c l) (ht : Tab w) :
    Calls Tryz.prog 94 #[.slice a l.length c] w fun e w' => e = .returned (.tuple #[.int .i64 (wrongOf l).1, .int .i64 (wrongOf l).2]) ∧ New w w' := by
  by_cases hl : l.length = 0 ∨ 40 < l.length
  · have e : wrongOf l = (0, 4) := by unfold wrongOf; rw [if_pos hl]
    rw [e]
    have := h.room; have := h.cap
    unfold maxLen at *
    exact wrong_limit a l.length c w (by omega) hl
  · have e : wrongOf l = goA (l.length - 1) 0 [] [] 0 l := by unfold wrongOf; rw [if_neg hl]
    rw [e]
    exact wrong_go a c l w h ht (by omega) (by omega)
set_option maxHeartbeats 1000000 in
theorem valid_any (a : Option Addr) (c : Nat) (l : List FileV) (w : World) (h : FilesAt w a c l) (ht : Tab w) :
    Calls Tryz.prog 64 #[.slice a l.length c] w fun e w' => e = .returned (.bool (validOf l)) ∧ New w w' := by
  have HW := hid (wrong_any a c l w h ht)
  clear h ht
  go_enter Tryz.func64, Tryz.ntmps64
  go_wp2_with (go_at_call 94; refine HW.out.mono ?_; rintro e w1 ⟨rfl, h1⟩; have H1 := hid h1; clear h1)
  go_ret
  refine ⟨ret_bool ?_, H1.out⟩
  rw [validOf, Bool.eq_iff_iff]
  simp

def sumOf (l : List FileV) : Int := (l.map (·.len)).sum
theorem sum_next {l : List FileV} {k : Nat} (h : k < l.length) : sumOf (l.take (k + 1)) = sumOf (l.take k) + l[k].len := by
  unfold sumOf
  rw [List.take_add_one, List.getElem?_eq_getElem h]
  simp only [Option.toList, List.map_append, List.map_cons, List.map_nil, List.sum_append, List.sum_cons, List.sum_nil]
  omega
theorem sum_mono : ∀ (l : List FileV), (∀ f ∈ l, 0 ≤ f.len) → ∀ k, 0 ≤ sumOf (l.take k) ∧ sumOf (l.take k) ≤ sumOf l
  | [], _, k => by simp [sumOf]
  | f :: r, h, 0 => by
    have := sum_mono r (fun g hg => h g (.tail _ hg)) r.length
    have := h f (.head _)
    simp only [List.take_length, sumOf, List.take_zero, List.map_nil, List.sum_nil, List.map_cons, List.sum_cons] at *
    omega
  | f :: r, h, k + 1 => by
    have := sum_mono r (fun g hg => h g (.tail _ hg)) k
    have := h f (.head _)
    simp only [sumOf, List.take_succ_cons, List.map_cons, List.sum_cons] at *
    omega

set_option maxRecDepth 100000 in
set_option maxHeartbeats 1000000 in
theorem total_any (a : Option Addr) (c : Nat) (l : List FileV) (w : World) (h : FilesAt w a c l) (hp : ∀ f ∈ l, 0 ≤ f.len) (hb : sumOf l ≤ 4611686018427387904) :
    Calls Tryz.prog 222 #[.slice a l.length c] w fun e w' => e = .returned (.int .i64 (sumOf l)) ∧ New w w' := by
  have hm1 := h.room; have hm2 := h.cap
  unfold maxLen at hm2
  have HM := hid (sum_mono l hp)
  have HB := hid hb
  clear hp hb
  by_cases hz : 0 < l.length
  · obtain ⟨b1, o1, rfl, hb1, hc1⟩ := h.get hz
    have HC1 := hid hc1
    clear h hc1
    go_enter Tryz.func222, Tryz.ntmps222
    go_wp2
    go_loopw [8, 3] (fun i n wr => ∃ k : Nat, i = .int .i64 k ∧ n = .int .i64 (sumOf (l.take k)) ∧ k ≤ l.length ∧ New w wr) (fun i _ _ => l.length - (intOf i).toNat)
    case atStart => exact ⟨0, rfl, rfl, by omega, Mod.refl _ _⟩
    case round =>
      obtain ⟨k, rfl, rfl, hk, hn⟩ := hrel
      have HN := hid hn
      by_cases hlt : k < l.length
      · obtain ⟨pa, pc, g0, g1, g2, -, g3⟩ := (HC1.out k hlt).new hn
        clear hn
        have HS := hid (sum_next hlt)
        obtain ⟨f, hf⟩ : ∃ f, f = l[k] := ⟨_, rfl⟩
        rw [← hf] at g0 g1 g2 g3 HS
        clear hf
        have q1 := (HM.out k).1
        have q2 := (HM.out (k + 1)).1
        have q3 := (HM.out (k + 1)).2
        rw [HS.out] at q2 q3
        have q4 := HB.out
        clear q3
        have q3 : sumOf (l.take k) + f.len ≤ 4611686018427387904 := by have := (HM.out (k + 1)).2; rw [HS.out] at this; omega
        clear q4
        go_wp2
        exact ⟨⟨k + 1, by simp, by rw [HS.out], by omega, HN.out.alloc _⟩, by simp [intOf]; omega⟩
      · have hkl : l.take k = l := List.take_of_length_le (by omega)
        rw [hkl]
        clear hkl
        go_wp2
        go_ret
        exact ⟨rfl, HN.out⟩
  · obtain rfl : l = [] := List.eq_nil_of_length_eq_zero (by omega)
    clear h
    go_enter Tryz.func222, Tryz.ntmps222
    go_wp2
    refine wp_loop_rounds 1 ?_
    rw [rounds_succ]
    go_wp2
    go_ret
    exact ⟨rfl, Mod.refl _ _⟩
theorem go_ok (last : Nat) : ∀ (l : List FileV) (i : Nat) (M A : List ByteArray) (tot : Int), (goA last i M A tot l).2 = 0 → (∀ f ∈ l, 0 ≤ f.len) ∧ (0 < l.length → tot + sumOf l ≤ 65536)
  | [], _, _, _, _, _ => ⟨by simp, by simp⟩
  | f :: r, i, M, A, tot, h => by
    unfold goA at h
    cases he : errA M A tot i last f with
    | some e =>
      rw [he] at h
      exfalso
      simp at h
      subst h
      unfold errA at he
      repeat' (split at he <;> try (simp at he))
    | none =>
      rw [he] at h
      obtain ⟨z1, z2⟩ := err_some he
      obtain ⟨y1, y2⟩ := go_ok last r _ _ _ _ h
      refine ⟨fun g hg => ?_, fun _ => ?_⟩
      · cases hg with
        | head => omega
        | tail _ hg => exact y1 g hg
      · simp only [sumOf, List.map_cons, List.sum_cons] at *
        cases r with
        | nil => simp; omega
        | cons x r => have := y2 (by simp); omega
/-- A valid list is short, its lengths are no less than nothing, and together within the bound. -/
theorem valid_facts {l : List FileV} (h : validOf l = true) : 1 ≤ l.length ∧ l.length ≤ 40 ∧ (∀ f ∈ l, 0 ≤ f.len) ∧ sumOf l ≤ 65536 := by
  unfold validOf wrongOf at h
  split at h
  · simp at h
  · next hn =>
    obtain ⟨y1, y2⟩ := go_ok _ l _ _ _ _ (by simpa using h)
    have := y2 (by omega)
    exact ⟨by omega, by omega, y1, by omega⟩
/-- Total. -/
def totalOf (l : List FileV) : Int × Int := if validOf l then (sumOf l, 0) else (0, 1)
/-- Piece. -/
def pieceOf (n : Int) : Bool := decide (n = 16 ∨ n = 32 ∨ n = 64 ∨ n = 128 ∨ n = 256 ∨ n = 512 ∨ n = 1024)
theorem and_all : ∀ m : _root_.Fin 1025, 16 ≤ m.val → (bits BinOp.and IntKind.i64 (m.val : Int) ((m.val : Int) - 1) == 0) = pieceOf m.val := by decide +kernel
theorem and_piece {n : Int} (h1 : 16 ≤ n) (h2 : n ≤ 1024) : (bits BinOp.and IntKind.i64 n (n - 1) == 0) = pieceOf n := by
  obtain ⟨m, rfl⟩ := Int.eq_ofNat_of_zero_le (show 0 ≤ n by omega)
  exact and_all ⟨m, by omega⟩ (by simpa using by omega)
set_option maxRecDepth 100000 in
set_option maxHeartbeats 1000000 in
theorem piece_any (n : Int) (w : World) (h0 : -9223372036854775808 ≤ n) (h1 : n ≤ 9223372036854775807) :
    Calls Tryz.prog 153 #[.int .i64 n] w fun e w' => e = .returned (.bool (pieceOf n)) ∧ w = w' := by
  by_cases p1 : 16 ≤ n
  · by_cases p2 : n ≤ 1024
    · go_enter Tryz.func153, Tryz.ntmps153
      go_wp2
      go_ret
      exact ⟨ret_bool (and_piece p1 p2), rfl⟩
    · have e : pieceOf n = false := by simp only [pieceOf, decide_eq_false_iff_not]; omega
      rw [e]
      clear e
      go_enter Tryz.func153, Tryz.ntmps153
      go_wp2
      go_ret
      exact ⟨rfl, rfl⟩
  · have e : pieceOf n = false := by simp only [pieceOf, decide_eq_false_iff_not]; omega
    rw [e]
    clear e
    go_enter Tryz.func153, Tryz.ntmps153
    go_wp2
    go_ret
    exact ⟨rfl, rfl⟩
set_option maxRecDepth 100000 in
set_option maxHeartbeats 1000000 in
theorem rpiece_any (n : Int) (w : World) (h0 : -9223372036854775808 ≤ n) (h1 : n ≤ 9223372036854775807) :
    Calls Tryz.prog 102 #[.int .i64 n] w fun e w' => e = .returned (.bool (pieceOf n)) ∧ w = w' := by
  go_enter Tryz.func102, Tryz.ntmps102
  go_wp2
  go_loopw [3] (fun i wr => ∃ p : Int, i = .int .i64 p ∧ wr = w ∧ (p = 16 ∨ (p = 32 ∧ n ≠ 16) ∨ (p = 64 ∧ n ≠ 16 ∧ n ≠ 32) ∨ (p = 128 ∧ n ≠ 16 ∧ n ≠ 32 ∧ n ≠ 64) ∨ (p = 256 ∧ n ≠ 16 ∧ n ≠ 32 ∧ n ≠ 64 ∧ n ≠ 128) ∨ (p = 512 ∧ n ≠ 16 ∧ n ≠ 32 ∧ n ≠ 64 ∧ n ≠ 128 ∧ n ≠ 256) ∨ (p = 1024 ∧ n ≠ 16 ∧ n ≠ 32 ∧ n ≠ 64 ∧ n ≠ 128 ∧ n ≠ 256 ∧ n ≠ 512) ∨ (p = 2048 ∧ pieceOf n = false))) (fun i _ => 4096 - (intOf i).toNat)
  case atStart => exact ⟨16, rfl, rfl, .inl rfl⟩
  case round =>
    obtain ⟨p, rfl, rfl, hp⟩ := hrel
    by_cases hlt : p ≤ 1024
    · have hpp : 16 ≤ p := by omega
      by_cases he : p = n
      · have hb : (p == n) = true := by simp [he]
        have HP := hid (show pieceOf n = true by simp only [pieceOf, decide_eq_true_eq]; omega)
        clear hp he
        go_wp2
        go_ret
        exact ⟨ret_bool HP.out.symm, rfl⟩
      · have hb : (p == n) = false := by simp [he]
        have HP := hid hp
        have HE := hid he
        clear hp he
        go_wp2
        refine ⟨⟨p * 2, rfl, trivial, ?_⟩, by simp [intOf]; omega⟩
        have he := HE.out
        rcases HP.out with h | h | h | h | h | h | h | h
        · exact .inr (.inl (by omega))
        · exact .inr (.inr (.inl (by omega)))
        · exact .inr (.inr (.inr (.inl (by omega))))
        · exact .inr (.inr (.inr (.inr (.inl (by omega)))))
        · exact .inr (.inr (.inr (.inr (.inr (.inl (by omega))))))
        · exact .inr (.inr (.inr (.inr (.inr (.inr (.inl (by omega)))))))
        · exact .inr (.inr (.inr (.inr (.inr (.inr (.inr ⟨by omega, by simp only [pieceOf, decide_eq_false_iff_not]; omega⟩))))))
        · omega
    · have HP := hid (show pieceOf n = false by rcases hp with h | h | h | h | h | h | h | h <;> first | omega | exact h.2)
      clear hp
      go_wp2
      go_ret
      exact ⟨ret_bool HP.out.symm, rfl⟩
end Go.Proofs.YtnhgichiedninaaGreatDoor

namespace Go.Proofs.YtnhgichiedninaaGreatDoor
set_option linter.unusedSimpArgs false
set_option linter.unusedVariables false

def httpB : List UInt8 := [104, 116, 116, 112, 58, 47, 47]
def httpsB : List UInt8 := [104, 116, 116, 112, 115, 58, 47, 47]
/-- Is a text a web seed? -/
def validU (u : ByteArray) : Bool := decide (u.size ≤ 200) && (Lib.hasPrefix u.data.toList httpB || Lib.hasPrefix u.data.toList httpsB)
/-- The bytes that stand as they are. -/
def plainB (b : UInt8) : Bool := (decide (97 ≤ b.toNat) && decide (b.toNat ≤ 122)) || (decide (65 ≤ b.toNat) && decide (b.toNat ≤ 90)) || (decide (48 ≤ b.toNat) && decide (b.toNat ≤ 57)) || decide (b = 45) || decide (b = 46) || decide (b = 95) || decide (b = 126) || decide (b = 47)
def hexDigits : List UInt8 := [48, 49, 50, 51, 52, 53, 54, 55, 56, 57, 65, 66, 67, 68, 69, 70]
def hexD (n : Nat) : UInt8 := hexDigits.getD n 0
def escB (b : UInt8) : List UInt8 := if plainB b then [b] else [37, hexD (b.toNat / 16), hexD (b.toNat % 16)]
/-- A text in an address. -/
def escOf (l : List UInt8) : List UInt8 := l.flatMap escB
theorem escB_len (b : UInt8) : (escB b).length ≤ 3 := by
  unfold escB
  split <;> simp
theorem escOf_len : ∀ l : List UInt8, (escOf l).length ≤ 3 * l.length
  | [] => by simp [escOf]
  | b :: l => by
    have h1 := escOf_len l
    have h2 := escB_len b
    unfold escOf at *
    rw [List.flatMap_cons, List.length_append, List.length_cons]
    omega
theorem escOf_next {l : List UInt8} {k : Nat} (h : k < l.length) : escOf (l.take (k + 1)) = escOf (l.take k) ++ escB l[k] := by
  unfold escOf
  rw [List.take_add_one, List.getElem?_eq_getElem h, List.flatMap_append]
  simp
def endsSlash (u : List UInt8) : Bool := Lib.hasSuffix u [47]
/-- A file's address. -/
def urlOf (url name : ByteArray) (l : List FileV) (file : Nat) : List UInt8 :=
  if l.length = 1 ∧ endsSlash url.data.toList = false then url.data.toList
  else (if endsSlash url.data.toList then url.data.toList else url.data.toList ++ [47]) ++ escOf name.data.toList ++ (if l.length = 1 then [] else [47] ++ escOf (joinB ((l[file]?).map (·.path) |>.getD [])).data.toList)
def askedB (url name : ByteArray) (l : List FileV) : Bool := validU url && !decide (name.size = 0) && decide (name.size ≤ 100) && validOf l
/-- What Path answers. -/
def urlErr (url name : ByteArray) (l : List FileV) (file : Int) : Int :=
  if askedB url name l then (if file < 0 ∨ (l.length : Int) ≤ file then 7 else (match l[file.toNat]? with | some f => if f.pad then 10 else 0 | none => 7)) else 1
def urlRes (url name : ByteArray) (l : List FileV) (file : Int) : List UInt8 := if urlErr url name l file = 0 then urlOf url name l file.toNat else []
end Go.Proofs.YtnhgichiedninaaGreatDoor

namespace Go.Proofs
open Go.Shelf
def Tryz.lays158_ren : Go.Shelf.Ren := ⟨fun | 158 => 137 | 165 => 98 | 166 => 99 | 167 => 132 | 169 => 101 | 230 => 158 | 203 => 159 | 240 => 144 | 241 => 145 | 197 => 174 | 118 => 175 | 168 => 176 | 270 => 177 | 262 => 178 | 276 => 165 | 277 => 166 | 260 => 187 | 242 => 188 | 313 => 189 | 278 => 193 | 274 => 194 | 275 => 195 | n => n, fun | 9 => 9 | 4 => 4 | 3 => 3 | 5 => 5 | 72 => 155 | 0 => 0 | 76 => 159 | 75 => 158 | 107 => 225 | 70 => 153 | 20 => 20 | 37 => 83 | 127 => 209 | 21 => 21 | 105 => 238 | 164 => 228 | 162 => 250 | 203 => 248 | 119 => 252 | 46 => 138 | 139 => 255 | 138 => 254 | 51 => 173 | 160 => 256 | 208 => 264 | 206 => 262 | 80 => 104 | n => n, fun | 13 => 2 | 3 => 3 | 4 => 4 | n => n⟩
theorem Tryz.lays158 : Go.Proofs.Lays.n158 Tryz.prog Tryz.lays158_ren := {
  mixed := by kernel_rfl
  f118 := Tryz.func175.trans (congrArg some (by kernel_rfl))
  f158 := Tryz.func137.trans (congrArg some (by kernel_rfl))
  f165 := Tryz.func98.trans (congrArg some (by kernel_rfl))
  f166 := Tryz.func99.trans (congrArg some (by kernel_rfl))
  f167 := Tryz.func132.trans (congrArg some (by kernel_rfl))
  f168 := Tryz.func176.trans (congrArg some (by kernel_rfl))
  f169 := Tryz.func101.trans (congrArg some (by kernel_rfl))
  f197 := Tryz.func174.trans (congrArg some (by kernel_rfl))
  f203 := Tryz.func159.trans (congrArg some (by kernel_rfl))
  f230 := Tryz.func158.trans (congrArg some (by kernel_rfl))
  f240 := Tryz.func144.trans (congrArg some (by kernel_rfl))
  f241 := Tryz.func145.trans (congrArg some (by kernel_rfl))
  f242 := Tryz.func188.trans (congrArg some (by kernel_rfl))
  f260 := Tryz.func187.trans (congrArg some (by kernel_rfl))
  f262 := Tryz.func178.trans (congrArg some (by kernel_rfl))
  f270 := Tryz.func177.trans (congrArg some (by kernel_rfl))
  f274 := Tryz.func194.trans (congrArg some (by kernel_rfl))
  f275 := Tryz.func195.trans (congrArg some (by kernel_rfl))
  f276 := Tryz.func165.trans (congrArg some (by kernel_rfl))
  f277 := Tryz.func166.trans (congrArg some (by kernel_rfl))
  f278 := Tryz.func193.trans (congrArg some (by kernel_rfl))
  f313 := Tryz.func189.trans (congrArg some (by kernel_rfl))
  t0 := Tryz.underlying0
  a0 := Tryz.isAgg0
  z0 := Tryz.sizeOf0
  v0 := Tryz.zeroValue0
  t3 := Tryz.underlying3
  a3 := Tryz.isAgg3
  z3 := Tryz.sizeOf3
  v3 := Tryz.zeroValue3
  t4 := Tryz.underlying4
  a4 := Tryz.isAgg4
  z4 := Tryz.sizeOf4
  v4 := Tryz.zeroValue4
  t5 := Tryz.underlying5
  a5 := Tryz.isAgg5
  z5 := Tryz.sizeOf5
  v5 := Tryz.zeroValue5
  t9 := Tryz.underlying9
  a9 := Tryz.isAgg9
  z9 := Tryz.sizeOf9
  v9 := Tryz.zeroValue9
  t20 := Tryz.underlying20
  a20 := Tryz.isAgg20
  z20 := Tryz.sizeOf20
  v20 := Tryz.zeroValue20
  t21 := Tryz.underlying21
  a21 := Tryz.isAgg21
  z21 := Tryz.sizeOf21
  v21 := Tryz.zeroValue21
  t37 := Tryz.underlying83
  a37 := Tryz.isAgg83
  z37 := Tryz.sizeOf83
  v37 := Tryz.zeroValue83
  t46 := Tryz.underlying138
  a46 := Tryz.isAgg138
  z46 := Tryz.sizeOf138
  v46 := Tryz.zeroValue138
  t51 := Tryz.underlying173
  a51 := Tryz.isAgg173
  z51 := Tryz.sizeOf173
  v51 := Tryz.zeroValue173
  t70 := Tryz.underlying153
  a70 := Tryz.isAgg153
  z70 := Tryz.sizeOf153
  v70 := Tryz.zeroValue153
  t72 := Tryz.underlying155
  a72 := Tryz.isAgg155
  z72 := Tryz.sizeOf155
  v72 := Tryz.zeroValue155
  t75 := Tryz.underlying158
  a75 := Tryz.isAgg158
  z75 := Tryz.sizeOf158
  v75 := Tryz.zeroValue158
  t76 := Tryz.underlying159
  a76 := Tryz.isAgg159
  z76 := Tryz.sizeOf159
  v76 := Tryz.zeroValue159
  t105 := Tryz.underlying238
  a105 := Tryz.isAgg238
  z105 := Tryz.sizeOf238
  v105 := Tryz.zeroValue238
  t107 := Tryz.underlying225
  a107 := Tryz.isAgg225
  z107 := Tryz.sizeOf225
  v107 := Tryz.zeroValue225
  t119 := Tryz.underlying252
  a119 := Tryz.isAgg252
  z119 := Tryz.sizeOf252
  t127 := Tryz.underlying209
  a127 := Tryz.isAgg209
  z127 := Tryz.sizeOf209
  v127 := Tryz.zeroValue209
  t138 := Tryz.underlying254
  a138 := Tryz.isAgg254
  z138 := Tryz.sizeOf254
  v138 := Tryz.zeroValue254
  t139 := Tryz.underlying255
  a139 := Tryz.isAgg255
  z139 := Tryz.sizeOf255
  v139 := Tryz.zeroValue255
  t160 := Tryz.underlying256
  a160 := Tryz.isAgg256
  z160 := Tryz.sizeOf256
  v160 := Tryz.zeroValue256
  t162 := Tryz.underlying250
  a162 := Tryz.isAgg250
  z162 := Tryz.sizeOf250
  v162 := Tryz.zeroValue250
  t164 := Tryz.underlying228
  a164 := Tryz.isAgg228
  z164 := Tryz.sizeOf228
  v164 := Tryz.zeroValue228
  t203 := Tryz.underlying248
  a203 := Tryz.isAgg248
  z203 := Tryz.sizeOf248
  v203 := Tryz.zeroValue248
  t206 := Tryz.underlying262
  a206 := Tryz.isAgg262
  z206 := Tryz.sizeOf262
  v206 := Tryz.zeroValue262
  t208 := Tryz.underlying264
  a208 := Tryz.isAgg264
  z208 := Tryz.sizeOf264
  v208 := Tryz.zeroValue264
  g3 := by kernel_rfl
  g4 := by kernel_rfl
  g13 := by kernel_rfl }
theorem Tryz.Builder_Extra_158 : Builder.Extra Tryz.prog Tryz.lays158_ren := {
  sizeBuilder := by kernel_rfl
  liesBuilder := by kernel_rfl
  t5 := Tryz.underlying5
  a5 := Tryz.isAgg5
  z5 := Tryz.sizeOf5
  v5 := Tryz.zeroValue5
  infoByte := by kernel_rfl
  cellsByte := by kernel_rfl
  sizeByte := by kernel_rfl
  neB5 := by decide }
open Go.RowKit in
theorem Tryz.strings_ToUpper_ascii (s : ByteArray) (w : World) (hs : s.size ≤ 140737488355328) (hascii : ∀ (j : Nat) (b : UInt8), s.data.toList[j]? = some b → b.toNat < 128) :
    Calls Tryz.prog 137 #[.string s] w fun e w' => e = .returned (.string ⟨(Lib.toUpperA s.data.toList).toArray⟩) ∧ Below w.heap.size w w' := Any.strings_ToUpper_ascii Tryz.lays158 Tryz.Builder_Extra_158 s w hs hascii
def Tryz.lays137_ren : Go.Shelf.Ren := ⟨fun | 137 => 154 | 217 => 172 | 266 => 183 | n => n, fun | 9 => 9 | 5 => 5 | 3 => 3 | n => n, fun | n => n⟩
theorem Tryz.lays137 : Go.Proofs.Lays.n137 Tryz.prog Tryz.lays137_ren := {
  mixed := by kernel_rfl
  f137 := Tryz.func154.trans (congrArg some (by kernel_rfl))
  f217 := Tryz.func172.trans (congrArg some (by kernel_rfl))
  f266 := Tryz.func183.trans (congrArg some (by kernel_rfl))
  t3 := Tryz.underlying3
  a3 := Tryz.isAgg3
  z3 := Tryz.sizeOf3
  v3 := Tryz.zeroValue3
  t5 := Tryz.underlying5
  a5 := Tryz.isAgg5
  z5 := Tryz.sizeOf5
  v5 := Tryz.zeroValue5
  t9 := Tryz.underlying9
  a9 := Tryz.isAgg9
  z9 := Tryz.sizeOf9
  v9 := Tryz.zeroValue9 }
open Go.RowKit in
theorem Tryz.strings_IndexByte (s : ByteArray) (c : Int) (w : World) :
    Calls Tryz.prog 154 #[.string s, .int .u8 c] w fun e w' => e = .returned (.int .i64 (Lib.indexByte s.data.toList c.toNat.toUInt8)) ∧ w' = w := Any.strings_IndexByte Tryz.lays137 s c w
def Tryz.lays144_ren : Go.Shelf.Ren := ⟨fun | 144 => 136 | 143 => 157 | 219 => 173 | 217 => 172 | 225 => 184 | 224 => 185 | 267 => 186 | 266 => 183 | 314 => 192 | n => n, fun | 9 => 9 | 4 => 4 | 3 => 3 | 5 => 5 | 46 => 138 | 146 => 205 | 51 => 173 | n => n, fun | 1 => 0 | n => n⟩
theorem Tryz.lays144 : Go.Proofs.Lays.n144 Tryz.prog Tryz.lays144_ren := {
  mixed := by kernel_rfl
  f143 := Tryz.func157.trans (congrArg some (by kernel_rfl))
  f144 := Tryz.func136.trans (congrArg some (by kernel_rfl))
  f217 := Tryz.func172.trans (congrArg some (by kernel_rfl))
  f219 := Tryz.func173.trans (congrArg some (by kernel_rfl))
  f224 := Tryz.func185.trans (congrArg some (by kernel_rfl))
  f225 := Tryz.func184.trans (congrArg some (by kernel_rfl))
  f266 := Tryz.func183.trans (congrArg some (by kernel_rfl))
  f267 := Tryz.func186.trans (congrArg some (by kernel_rfl))
  f314 := Tryz.func192.trans (congrArg some (by kernel_rfl))
  t3 := Tryz.underlying3
  a3 := Tryz.isAgg3
  z3 := Tryz.sizeOf3
  v3 := Tryz.zeroValue3
  t4 := Tryz.underlying4
  a4 := Tryz.isAgg4
  z4 := Tryz.sizeOf4
  v4 := Tryz.zeroValue4
  t5 := Tryz.underlying5
  a5 := Tryz.isAgg5
  z5 := Tryz.sizeOf5
  v5 := Tryz.zeroValue5
  t9 := Tryz.underlying9
  a9 := Tryz.isAgg9
  z9 := Tryz.sizeOf9
  v9 := Tryz.zeroValue9
  t46 := Tryz.underlying138
  a46 := Tryz.isAgg138
  z46 := Tryz.sizeOf138
  v46 := Tryz.zeroValue138
  t51 := Tryz.underlying173
  a51 := Tryz.isAgg173
  z51 := Tryz.sizeOf173
  v51 := Tryz.zeroValue173
  t146 := Tryz.underlying205
  a146 := Tryz.isAgg205
  z146 := Tryz.sizeOf205
  v146 := Tryz.zeroValue205
  g1 := by kernel_rfl }
open Go.RowKit Go.Lib in
theorem Tryz.strings_Contains_one (s : ByteArray) (c : UInt8) (w : World) :
    Calls Tryz.prog 136 #[.string s, .string ⟨#[c]⟩] w fun e w' => e = .returned (.bool (decide (0 ≤ Lib.indexByte s.data.toList c))) ∧ w' = w := Any.strings_Contains_one Tryz.lays144 s c w
def Tryz.lays99_ren : Go.Shelf.Ren := ⟨fun | 99 => 73 | 206 => 104 | n => n, fun | 9 => 9 | 4 => 4 | 3 => 3 | n => n, fun | n => n⟩
theorem Tryz.lays99 : Go.Proofs.Lays.n99 Tryz.prog Tryz.lays99_ren := {
  mixed := by kernel_rfl
  f99 := Tryz.func73.trans (congrArg some (by kernel_rfl))
  f206 := Tryz.func104.trans (congrArg some (by kernel_rfl))
  t3 := Tryz.underlying3
  a3 := Tryz.isAgg3
  z3 := Tryz.sizeOf3
  v3 := Tryz.zeroValue3
  t4 := Tryz.underlying4
  a4 := Tryz.isAgg4
  z4 := Tryz.sizeOf4
  v4 := Tryz.zeroValue4
  t9 := Tryz.underlying9
  a9 := Tryz.isAgg9
  z9 := Tryz.sizeOf9
  v9 := Tryz.zeroValue9 }
open Go.RowKit Go.Lib in
theorem Tryz.strings_HasPrefix (s p : ByteArray) (w : World) :
    Calls Tryz.prog 73 #[.string s, .string p] w fun e w' => e = .returned (.bool (Lib.hasPrefix s.data.toList p.data.toList)) ∧ w' = w := Any.strings_HasPrefix Tryz.lays99 s p w
def Tryz.lays100_ren : Go.Shelf.Ren := ⟨fun | 100 => 87 | 207 => 129 | n => n, fun | 9 => 9 | 4 => 4 | 3 => 3 | n => n, fun | n => n⟩
theorem Tryz.lays100 : Go.Proofs.Lays.n100 Tryz.prog Tryz.lays100_ren := {
  mixed := by kernel_rfl
  f100 := Tryz.func87.trans (congrArg some (by kernel_rfl))
  f207 := Tryz.func129.trans (congrArg some (by kernel_rfl))
  t3 := Tryz.underlying3
  a3 := Tryz.isAgg3
  z3 := Tryz.sizeOf3
  v3 := Tryz.zeroValue3
  t4 := Tryz.underlying4
  a4 := Tryz.isAgg4
  z4 := Tryz.sizeOf4
  v4 := Tryz.zeroValue4
  t9 := Tryz.underlying9
  a9 := Tryz.isAgg9
  z9 := Tryz.sizeOf9
  v9 := Tryz.zeroValue9 }
open Go.RowKit Go.Lib in
theorem Tryz.strings_HasSuffix (s p : ByteArray) (w : World) (hs : s.size ≤ 9223372036854775807) :
    Calls Tryz.prog 87 #[.string s, .string p] w fun e w' => e = .returned (.bool (Lib.hasSuffix s.data.toList p.data.toList)) ∧ w' = w := Any.strings_HasSuffix Tryz.lays100 s p w hs
def Tryz.lays102_ren : Go.Shelf.Ren := ⟨fun | 102 => 88 | 209 => 130 | 207 => 129 | n => n, fun | 9 => 9 | 4 => 4 | 3 => 3 | n => n, fun | n => n⟩
theorem Tryz.lays102 : Go.Proofs.Lays.n102 Tryz.prog Tryz.lays102_ren := {
  mixed := by kernel_rfl
  f102 := Tryz.func88.trans (congrArg some (by kernel_rfl))
  f207 := Tryz.func129.trans (congrArg some (by kernel_rfl))
  f209 := Tryz.func130.trans (congrArg some (by kernel_rfl))
  t3 := Tryz.underlying3
  a3 := Tryz.isAgg3
  z3 := Tryz.sizeOf3
  v3 := Tryz.zeroValue3
  t4 := Tryz.underlying4
  a4 := Tryz.isAgg4
  z4 := Tryz.sizeOf4
  v4 := Tryz.zeroValue4
  t9 := Tryz.underlying9
  a9 := Tryz.isAgg9
  z9 := Tryz.sizeOf9
  v9 := Tryz.zeroValue9 }
open Go.RowKit Go.Lib in
theorem Tryz.strings_TrimSuffix (s p : ByteArray) (w : World) (hs : s.size ≤ 9223372036854775807) :
    Calls Tryz.prog 88 #[.string s, .string p] w fun e w' => e = .returned (.string ⟨(Lib.trimSuffix s.data.toList p.data.toList).toArray⟩) ∧ w' = w := Any.strings_TrimSuffix Tryz.lays102 s p w hs
end Go.Proofs
