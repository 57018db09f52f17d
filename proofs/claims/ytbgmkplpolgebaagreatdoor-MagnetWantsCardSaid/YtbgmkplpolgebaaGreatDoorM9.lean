/-
  Several texts in one, in their build order. Hexadecimal digits read two at a time: what has been read so far. Plain Lean, no program. No condition. Texts of magnets told in plain words: escaped bytes, and escapes read in either case of digits. Plain Lean, no program. No condition. Contracts of the kit's shelf laid at this program, in plain words, written by the kit's tool. No condition. Numbers: what is written in decimal digits is read back. Plain Lean, no program. No condition.
-/
import Derived.Test.YtbgmkplpolgebaaGreatDoorM8
import Derived.Lib.Bytealg
import Derived.Shelf.Strings.Builder1
import Derived.Shelf.Strings.Builder2
import Derived.Shelf.Strings.OnBuilder
import Derived.Shelf.Small.Utf8
import Derived.Shelf.Small.Bits
import Derived.Shelf.Small.Strs
import Derived.Shelf.Small.Wraps
import Derived.Shelf.Strings.BuilderF
import Derived.Shelf.Strings.BuilderK
import Derived.Shelf.Strconv.Atoi
import Derived.Shelf.Strconv.Itoa0
import Derived.Shelf.Strconv.Itoa1
import Derived.Shelf.LaysM
import Derived.Shelf.Strconv.Itoa2
import Derived.Shelf.Strconv.Itoa3
import Derived.Shelf.Strconv.AtoiErrFast
import Derived.Shelf.Strconv.ParseIntEmpty
import Derived.Shelf.Strconv.AtoiFail
import Derived.Shelf.Strconv.Clone
import Derived.Shelf.Strconv.SyntaxError
import Derived.Shelf.LaysC
import Derived.Shelf.Strconv.ToError
import Derived.Shelf.Strconv.Lower
import Derived.Shelf.Strconv.ParseUint10
import Derived.Shelf.Strconv.ParseUint10Empty
import Derived.Shelf.Strconv.ParseUint10Any
import Derived.Shelf.Strconv.ParseInt10
import Derived.Shelf.Strconv.AtoiLong
import Derived.Shelf.Strconv.AtoiInnerAll
import Derived.Shelf.Strconv.RangeError
import Derived.Shelf.Strconv.ToErrorRange
import Derived.Shelf.Strconv.AtoiAll
import Derived.Shelf.Strconv.ErrVarAll
import Derived.Shelf.Strings.Search1
import Derived.Shelf.Strings.Search2
import Derived.Shelf.Strings.Search3
import Derived.Shelf.Strings.Cut
import Derived.Shelf.Strings.Count
import Derived.Shelf.Strings.Shaped
import Derived.Shelf.Strings.LastIndex
import Derived.Shelf.Strings.Prefix
import Derived.Shelf.Strings.Split
import Derived.Shelf.Strings.Replace
import Derived.Shelf.Unicode.Latin
import Derived.Shelf.Unicode.DecodeSlow
import Derived.Shelf.Unicode.CaseLookup
import Derived.Shelf.Unicode.CaseConvert
import Derived.Shelf.Unicode.CaseTo
import Derived.Shelf.Unicode.CaseLaid
import Derived.Shelf.Slices.Equal
import Derived.Shelf.Slices.Empties2
import Derived.Ground.PaProg
import Derived.Shelf.Path.Small
import Derived.Test.YtbgmkplpolgebaaGreatDoorProg
import Derived.Test.YtbgmkplpolgebaaGreatDoorM1
import Derived.Lib.AtoiAll
namespace Go.Proofs.YtbgmkplpolgebaaGreatDoor
set_option linter.unusedSimpArgs false
set_option linter.unusedVariables false

def nibD (c : UInt8) : Nat := (nib c).getD 0
theorem nib_lt {c : UInt8} {n : Nat} (h : nib c = some n) : n < 16 := (low_nib h).2
theorem nibD_lt (c : UInt8) : nibD c < 16 := by
  unfold nibD
  cases h : nib c with
  | none => decide
  | some n => exact nib_lt h
def half : List UInt8 → List UInt8
  | [] => []
  | [a] => [UInt8.ofNat (16 * nibD a)]
  | a :: b :: r => UInt8.ofNat (16 * nibD a + nibD b) :: half r
theorem half_one : ∀ (p : List UInt8) (a : UInt8), p.length % 2 = 0 → half (p ++ [a]) = half p ++ [UInt8.ofNat (16 * nibD a)]
  | [], a, _ => rfl
  | [x], a, h => by simp at h
  | x :: y :: r, a, h => by
    have := half_one r a (by simp only [List.length_cons] at h; omega)
    simp only [List.cons_append, half, this]
theorem half_two : ∀ (p : List UInt8) (a b : UInt8), p.length % 2 = 0 → half (p ++ [a, b]) = half p ++ [UInt8.ofNat (16 * nibD a + nibD b)]
  | [], a, b, _ => rfl
  | [x], a, b, h => by simp at h
  | x :: y :: r, a, b, h => by
    have := half_two r a b (by simp only [List.length_cons] at h; omega)
    simp only [List.cons_append, half, this]
theorem half_len : ∀ l : List UInt8, (half l).length = (l.length + 1) / 2
  | [] => rfl
  | [a] => by simp [half]
  | a :: b :: r => by
    have := half_len r
    simp only [half, List.length_cons, this]
    omega
theorem unhex_half : ∀ l : List UInt8, l.length % 2 = 0 → (∀ c ∈ l, (nib c).isSome = true) → unhex l = some (half l)
  | [], _, _ => rfl
  | [a], h, _ => by simp at h
  | a :: b :: r, h, hn => by
    have := unhex_half r (by simp only [List.length_cons] at h; omega) (fun c hc => hn c (by simp [hc]))
    have ha := hn a (by simp)
    have hb := hn b (by simp)
    cases ea : nib a with
    | none => rw [ea] at ha; cases ha
    | some x =>
      cases eb : nib b with
      | none => rw [eb] at hb; cases hb
      | some y =>
        rw [unhex, ea, eb, this]
        simp only [half, nibD, ea, eb, Option.getD_some]
theorem unhex_bad : ∀ (l : List UInt8) (c : UInt8), c ∈ l → nib c = none → unhex l = none
  | [], c, h, _ => by simp at h
  | [a], c, h, _ => rfl
  | a :: b :: r, c, h, hn => by
    rw [unhex]
    simp only [List.mem_cons] at h
    rcases h with rfl | rfl | h
    · rw [hn]
    · rw [hn]; cases nib a <;> rfl
    · rw [unhex_bad r c h hn]
      cases nib a <;> cases nib b <;> rfl
theorem unhex_odd : ∀ l : List UInt8, l.length % 2 = 1 → unhex l = none
  | [], h => by simp at h
  | [a], _ => rfl
  | a :: b :: r, h => by
    rw [unhex, unhex_odd r (by simp only [List.length_cons] at h; omega)]
    cases nib a <;> cases nib b <;> rfl
def nibI (c : UInt8) : Int := match nib c with
  | some n => (n : Int)
  | none => -1
theorem nibI_some {c : UInt8} {n : Nat} (h : nib c = some n) : nibI c = (n : Int) := by unfold nibI; rw [h]
theorem nibI_none {c : UInt8} (h : nib c = none) : nibI c = -1 := by unfold nibI; rw [h]
theorem index_nib (c : UInt8) : Lib.indexByte hexLows c = nibI c := by
  have key : ∀ k : Nat, k < 256 → Lib.indexByte hexLows (UInt8.ofNat k) = nibI (UInt8.ofNat k) := by decide +kernel
  have := key c.toNat c.toNat_lt
  rwa [UInt8.ofNat_toNat] at this
def unhexE (l : List UInt8) : Int := if (unhex l).isSome then 0 else 2
def unhexB (l : List UInt8) : List UInt8 := (unhex l).getD []
theorem unhex_no {l : List UInt8} (h : unhex l = none) : unhexB l = [] ∧ unhexE l = 2 := by
  unfold unhexB unhexE
  rw [h]
  exact ⟨rfl, rfl⟩
theorem unhex_yes {l t : List UInt8} (h : unhex l = some t) : unhexB l = t ∧ unhexE l = 0 := by
  unfold unhexB unhexE
  rw [h]
  exact ⟨rfl, rfl⟩
theorem half_next0 {l : List UInt8} {k : Nat} (h : k < l.length) (he : k % 2 = 0) : half (l.take (k + 1)) = half (l.take k) ++ [UInt8.ofNat (16 * nibD l[k])] := by
  rw [List.take_add_one, List.getElem?_eq_getElem h]
  exact half_one _ _ (by rw [List.length_take]; omega)
/-- At an odd place: the byte written last, and the same with the lower half. -/
theorem half_next1 {l : List UInt8} {k : Nat} (h : k < l.length) (he : k % 2 = 1) : ∃ (p : List UInt8) (a : Nat), a < 16 ∧ p.length = k / 2 ∧ half (l.take k) = p ++ [UInt8.ofNat (16 * a)] ∧ half (l.take (k + 1)) = p ++ [UInt8.ofNat (16 * a + nibD l[k])] := by
  obtain ⟨j, rfl⟩ : ∃ j, k = j + 1 := ⟨k - 1, by omega⟩
  have e1 : l.take (j + 1) = l.take j ++ [l[j]] := by
    rw [List.take_add_one, List.getElem?_eq_getElem (by omega)]
    rfl
  have e2 : l.take (j + 1 + 1) = l.take j ++ [l[j], l[j + 1]] := by
    rw [List.take_add_one, List.getElem?_eq_getElem h, e1, List.append_assoc]
    rfl
  have hj : (l.take j).length % 2 = 0 := by rw [List.length_take]; omega
  refine ⟨half (l.take j), nibD l[j], nibD_lt _, by rw [half_len, List.length_take]; omega, by rw [e1]; exact half_one _ _ hj, by rw [e2]; exact half_two _ _ _ hj⟩
theorem or_low {a b : Nat} (ha : a < 16) (hb : b < 16) : bits .or .u8 ((UInt8.ofNat (16 * a)).toNat : Int) (b : Int) = ((UInt8.ofNat (16 * a + b)).toNat : Int) := by
  have key : ∀ a : Nat, a < 16 → ∀ b : Nat, b < 16 → bits .or .u8 ((UInt8.ofNat (16 * a)).toNat : Int) (b : Int) = ((UInt8.ofNat (16 * a + b)).toNat : Int) := by decide +kernel
  exact key a ha b hb
theorem mk_high {a : Nat} (ha : a < 16) : ((UInt8.ofNat (16 * a)).toNat : Int) = 16 * (a : Int) := by
  rw [UInt8.toNat_ofNat', Nat.mod_eq_of_lt (by omega)]
  omega
end Go.Proofs.YtbgmkplpolgebaaGreatDoor

namespace Go.Proofs.YtbgmkplpolgebaaGreatDoor
set_option linter.unusedSimpArgs false
set_option linter.unusedVariables false

/-- A great letter of the digits, made small. -/
def lowC (c : UInt8) : UInt8 := if 65 ≤ c.toNat ∧ c.toNat ≤ 70 then c + 32 else c
def nibC (c : UInt8) : Option Nat := nib (lowC c)
/-- Escapes read in either case; all other bytes stand as they are. -/
def loose : List UInt8 → Option (List UInt8)
  | [] => some []
  | [c] => if c = 37 then none else some [c]
  | [c, a] => if c = 37 then none else (loose [a]).map (c :: ·)
  | c :: a :: b :: t => if c = 37 then (match nibC a, nibC b with | some x, some y => (loose t).map (UInt8.ofNat (16 * x + y) :: ·) | _, _ => none) else (loose (a :: b :: t)).map (c :: ·)
theorem loose_nil : loose [] = some [] := by rw [loose]
theorem loose_plain {c : UInt8} (h : c ≠ 37) : ∀ (r : List UInt8), loose (c :: r) = (loose r).map (c :: ·)
  | [] => by simp [loose, h]
  | [a] => by simp [loose, h]
  | a :: b :: t => by simp [loose, h]
theorem loose_esc (a b : UInt8) (t : List UInt8) : loose (37 :: a :: b :: t) = (match nibC a, nibC b with | some x, some y => (loose t).map (UInt8.ofNat (16 * x + y) :: ·) | _, _ => none) := by
  simp [loose]
theorem loose_cut : ∀ (r : List UInt8), r.length < 2 → loose (37 :: r) = none
  | [], _ => by simp [loose]
  | [a], _ => by simp [loose]
  | a :: b :: t, h => by simp at h; omega
/-- Hexadecimal digits in either case. -/
def hexC (s : List UInt8) : Option (List UInt8) := unhex (s.map lowC)
theorem hexC_two (a b : UInt8) : hexC [a, b] = (match nibC a, nibC b with | some x, some y => some [UInt8.ofNat (16 * x + y)] | _, _ => none) := by
  unfold hexC nibC
  show unhex [lowC a, lowC b] = _
  rw [unhex]
  cases nib (lowC a) <;> cases nib (lowC b) <;> rfl
theorem loose_hex (a b : UInt8) (t : List UInt8) : loose (37 :: a :: b :: t) = (match hexC [a, b] with | some x => (loose t).map (x ++ ·) | none => none) := by
  rw [loose_esc, hexC_two]
  cases nibC a <;> cases nibC b <;> rfl
/-- A text read from the left: what has been read, and what is left to be read. -/
theorem loose_step {acc l : List UInt8} {X : Option (List UInt8)} {c : UInt8} (h : (loose (c :: l)).map (acc ++ ·) = X) (hc : c ≠ 37) : (loose l).map ((acc ++ [c]) ++ ·) = X := by
  rw [← h, loose_plain hc]
  cases loose l with
  | none => rfl
  | some u => simp
theorem loose_step3 {acc t : List UInt8} {X : Option (List UInt8)} {a b : UInt8} {x : List UInt8} (h : (loose (37 :: a :: b :: t)).map (acc ++ ·) = X) (hx : hexC [a, b] = some x) : (loose t).map ((acc ++ x) ++ ·) = X := by
  rw [← h, loose_hex, hx]
  cases loose t with
  | none => rfl
  | some u => simp
theorem loose_bad {acc t : List UInt8} {X : Option (List UInt8)} {a b : UInt8} (h : (loose (37 :: a :: b :: t)).map (acc ++ ·) = X) (hx : hexC [a, b] = none) : X = none := by
  rw [← h, loose_hex, hx]
  rfl
theorem loose_short {acc r : List UInt8} {X : Option (List UInt8)} (h : (loose (37 :: r)).map (acc ++ ·) = X) (hr : r.length < 2) : X = none := by
  rw [← h, loose_cut _ hr]
  rfl
end Go.Proofs.YtbgmkplpolgebaaGreatDoor

namespace Go.Proofs
open Go.Shelf
def Tryz.lays156_ren : Go.Shelf.Ren := ⟨fun | 156 => 56 | 165 => 118 | 166 => 114 | 169 => 116 | 240 => 154 | 241 => 158 | 276 => 179 | 277 => 185 | n => n, fun | 31 => 23 | 9 => 9 | 3 => 3 | 4 => 4 | 0 => 0 | 20 => 20 | 72 => 138 | 76 => 143 | 70 => 136 | 37 => 42 | 75 => 141 | 127 => 184 | 164 => 195 | 5 => 5 | 80 => 145 | n => n, fun | n => n⟩
theorem Tryz.lays156 : Go.Proofs.Lays.n156 Tryz.prog Tryz.lays156_ren := {
  mixed := by kernel_rfl
  f156 := Tryz.func56.trans (congrArg some (by kernel_rfl))
  f165 := Tryz.func118.trans (congrArg some (by kernel_rfl))
  f166 := Tryz.func114.trans (congrArg some (by kernel_rfl))
  f169 := Tryz.func116.trans (congrArg some (by kernel_rfl))
  f240 := Tryz.func154.trans (congrArg some (by kernel_rfl))
  f241 := Tryz.func158.trans (congrArg some (by kernel_rfl))
  f276 := Tryz.func179.trans (congrArg some (by kernel_rfl))
  f277 := Tryz.func185.trans (congrArg some (by kernel_rfl))
  t0 := Tryz.underlying0
  a0 := Tryz.isAgg0
  z0 := Tryz.sizeOf0
  v0 := Tryz.zeroValue0
  t3 := Tryz.underlying3
  a3 := Tryz.isAgg3
  z3 := Tryz.sizeOf3
  v3 := Tryz.zeroValue3
  t4 := Tryz.underlying4
  a4 := Tryz.isAgg4
  z4 := Tryz.sizeOf4
  v4 := Tryz.zeroValue4
  t9 := Tryz.underlying9
  a9 := Tryz.isAgg9
  z9 := Tryz.sizeOf9
  v9 := Tryz.zeroValue9
  t20 := Tryz.underlying20
  a20 := Tryz.isAgg20
  z20 := Tryz.sizeOf20
  v20 := Tryz.zeroValue20
  t31 := Tryz.underlying23
  a31 := Tryz.isAgg23
  z31 := Tryz.sizeOf23
  v31 := Tryz.zeroValue23
  t37 := Tryz.underlying42
  a37 := Tryz.isAgg42
  z37 := Tryz.sizeOf42
  v37 := Tryz.zeroValue42
  t70 := Tryz.underlying136
  a70 := Tryz.isAgg136
  z70 := Tryz.sizeOf136
  v70 := Tryz.zeroValue136
  t72 := Tryz.underlying138
  a72 := Tryz.isAgg138
  z72 := Tryz.sizeOf138
  v72 := Tryz.zeroValue138
  t75 := Tryz.underlying141
  a75 := Tryz.isAgg141
  z75 := Tryz.sizeOf141
  v75 := Tryz.zeroValue141
  t76 := Tryz.underlying143
  a76 := Tryz.isAgg143
  z76 := Tryz.sizeOf143
  v76 := Tryz.zeroValue143
  t127 := Tryz.underlying184
  a127 := Tryz.isAgg184
  z127 := Tryz.sizeOf184
  v127 := Tryz.zeroValue184
  t164 := Tryz.underlying195
  a164 := Tryz.isAgg195
  z164 := Tryz.sizeOf195
  v164 := Tryz.zeroValue195 }
theorem Tryz.Builder_Extra_156 : Builder.Extra Tryz.prog Tryz.lays156_ren := {
  sizeBuilder := by kernel_rfl
  liesBuilder := by kernel_rfl
  t5 := Tryz.underlying5
  a5 := Tryz.isAgg5
  z5 := Tryz.sizeOf5
  v5 := Tryz.zeroValue5
  infoByte := by kernel_rfl
  cellsByte := by kernel_rfl
  sizeByte := by kernel_rfl
  neB5 := by decide }
def Tryz.lays137_ren : Go.Shelf.Ren := ⟨fun | 137 => 153 | 217 => 163 | 266 => 187 | n => n, fun | 9 => 9 | 5 => 5 | 3 => 3 | n => n, fun | n => n⟩
theorem Tryz.lays137 : Go.Proofs.Lays.n137 Tryz.prog Tryz.lays137_ren := {
  mixed := by kernel_rfl
  f137 := Tryz.func153.trans (congrArg some (by kernel_rfl))
  f217 := Tryz.func163.trans (congrArg some (by kernel_rfl))
  f266 := Tryz.func187.trans (congrArg some (by kernel_rfl))
  t3 := Tryz.underlying3
  a3 := Tryz.isAgg3
  z3 := Tryz.sizeOf3
  v3 := Tryz.zeroValue3
  t5 := Tryz.underlying5
  a5 := Tryz.isAgg5
  z5 := Tryz.sizeOf5
  v5 := Tryz.zeroValue5
  t9 := Tryz.underlying9
  a9 := Tryz.isAgg9
  z9 := Tryz.sizeOf9
  v9 := Tryz.zeroValue9 }
open Go.RowKit in
theorem Tryz.strings_IndexByte (s : ByteArray) (c : Int) (w : World) :
    Calls Tryz.prog 153 #[.string s, .int .u8 c] w fun e w' => e = .returned (.int .i64 (Lib.indexByte s.data.toList c.toNat.toUInt8)) ∧ w' = w := Any.strings_IndexByte Tryz.lays137 s c w
end Go.Proofs

namespace Go.Proofs.YtbgmkplpolgebaaGreatDoor
set_option linter.unusedSimpArgs false
set_option linter.unusedVariables false

end Go.Proofs.YtbgmkplpolgebaaGreatDoor
