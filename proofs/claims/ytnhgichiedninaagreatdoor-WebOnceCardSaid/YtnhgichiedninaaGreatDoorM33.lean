/-
  Several texts in one, in their build order. Contracts of the kit's shelf laid at this program, in plain words, written by the kit's tool. No condition. The walks of web.Valid and of the reference's. Condition: the text's length is an int. Are all of the texts web seeds (package web, New's first question). Condition: the texts lie as told.
-/
import Derived.Shelf.Strings.Builder1
import Derived.Shelf.Strings.Builder2
import Derived.Shelf.Strings.OnBuilder
import Derived.Shelf.Small.Utf8
import Derived.Shelf.Small.Strs
import Derived.Shelf.Strings.BuilderF
import Derived.Shelf.Strconv.Itoa0
import Derived.Shelf.Strconv.Itoa1
import Derived.Shelf.LaysM
import Derived.Shelf.Strconv.Itoa2
import Derived.Shelf.Strconv.Itoa3
import Derived.Shelf.Strings.Search1
import Derived.Shelf.Strings.Search2
import Derived.Shelf.Strings.Search3
import Derived.Shelf.Strings.Shaped
import Derived.Shelf.Strings.Prefix
import Derived.Shelf.Unicode.Latin
import Derived.Shelf.Bits.Mul64
import Derived.Shelf.Strings.Repeat
import Derived.Shelf.Unicode.DecodeSlow
import Derived.Shelf.Unicode.CaseLookup
import Derived.Shelf.Unicode.CaseConvert
import Derived.Shelf.Unicode.CaseTo
import Derived.Shelf.Unicode.CaseLaid
import Derived.Shelf.Slices.Equal
import Derived.Shelf.Slices.Empties2
import Derived.Test.YtnhgichiedninaaGreatDoorProg
import Derived.Test.YtnhgichiedninaaGreatDoorM32
import Derived.Test.YtnhgichiedninaaGreatDoorM4
import Derived.Test.YtnhgichiedninaaGreatDoorM3
namespace Go.Proofs
open Go.Shelf
def Tryz.lays158_ren : Go.Shelf.Ren := ⟨fun | 158 => 137 | 165 => 98 | 166 => 99 | 167 => 132 | 169 => 101 | 230 => 158 | 203 => 159 | 240 => 144 | 241 => 145 | 197 => 174 | 118 => 175 | 168 => 176 | 270 => 177 | 262 => 178 | 276 => 165 | 277 => 166 | 260 => 187 | 242 => 188 | 313 => 189 | 278 => 193 | 274 => 194 | 275 => 195 | n => n, fun | 9 => 9 | 4 => 4 | 3 => 3 | 5 => 5 | 72 => 155 | 0 => 0 | 76 => 159 | 75 => 158 | 107 => 225 | 70 => 153 | 20 => 20 | 37 => 83 | 127 => 209 | 21 => 21 | 105 => 238 | 164 => 228 | 162 => 250 | 203 => 248 | 119 => 252 | 46 => 138 | 139 => 255 | 138 => 254 | 51 => 173 | 160 => 256 | 208 => 264 | 206 => 262 | 80 => 104 | n => n, fun | 13 => 2 | 3 => 3 | 4 => 4 | n => n⟩
theorem Tryz.lays158 : Go.Proofs.Lays.n158 Tryz.prog Tryz.lays158_ren := {
  mixed := by kernel_rfl
  f118 := Tryz.func175.trans (congrArg some (by kernel_rfl))
  f158 := Tryz.func137.trans (congrArg some (by kernel_rfl))
  f165 := Tryz.func98.trans (congrArg some (by kernel_rfl))
  f166 := Tryz.func99.trans (congrArg some (by kernel_rfl))
  f167 := Tryz.func132.trans (congrArg some (by kernel_rfl))
  f168 := Tryz.func176.trans (congrArg some (by kernel_rfl))
  f169 := Tryz.func101.trans (congrArg some (by kernel_rfl))
  f197 := Tryz.func174.trans (congrArg some (by kernel_rfl))
  f203 := Tryz.func159.trans (congrArg some (by kernel_rfl))
  f230 := Tryz.func158.trans (congrArg some (by kernel_rfl))
  f240 := Tryz.func144.trans (congrArg some (by kernel_rfl))
  f241 := Tryz.func145.trans (congrArg some (by kernel_rfl))
  f242 := Tryz.func188.trans (congrArg some (by kernel_rfl))
  f260 := Tryz.func187.trans (congrArg some (by kernel_rfl))
  f262 := Tryz.func178.trans (congrArg some (by kernel_rfl))
  f270 := Tryz.func177.trans (congrArg some (by kernel_rfl))
  f274 := Tryz.func194.trans (congrArg some (by kernel_rfl))
  f275 := Tryz.func195.trans (congrArg some (by kernel_rfl))
  f276 := Tryz.func165.trans (congrArg some (by kernel_rfl))
  f277 := Tryz.func166.trans (congrArg some (by kernel_rfl))
  f278 := Tryz.func193.trans (congrArg some (by kernel_rfl))
  f313 := Tryz.func189.trans (congrArg some (by kernel_rfl))
  t0 := Tryz.underlying0
  a0 := Tryz.isAgg0
  z0 := Tryz.sizeOf0
  v0 := Tryz.zeroValue0
  t3 := Tryz.underlying3
  a3 := Tryz.isAgg3
  z3 := Tryz.sizeOf3
  v3 := Tryz.zeroValue3
  t4 := Tryz.underlying4
  a4 := Tryz.isAgg4
  z4 := Tryz.sizeOf4
  v4 := Tryz.zeroValue4
  t5 := Tryz.underlying5
  a5 := Tryz.isAgg5
  z5 := Tryz.sizeOf5
  v5 := Tryz.zeroValue5
  t9 := Tryz.underlying9
  a9 := Tryz.isAgg9
  z9 := Tryz.sizeOf9
  v9 := Tryz.zeroValue9
  t20 := Tryz.underlying20
  a20 := Tryz.isAgg20
  z20 := Tryz.sizeOf20
  v20 := Tryz.zeroValue20
  t21 := Tryz.underlying21
  a21 := Tryz.isAgg21
  z21 := Tryz.sizeOf21
  v21 := Tryz.zeroValue21
  t37 := Tryz.underlying83
  a37 := Tryz.isAgg83
  z37 := Tryz.sizeOf83
  v37 := Tryz.zeroValue83
  t46 := Tryz.underlying138
  a46 := Tryz.isAgg138
  z46 := Tryz.sizeOf138
  v46 := Tryz.zeroValue138
  t51 := Tryz.underlying173
  a51 := Tryz.isAgg173
  z51 := Tryz.sizeOf173
  v51 := Tryz.zeroValue173
  t70 := Tryz.underlying153
  a70 := Tryz.isAgg153
  z70 := Tryz.sizeOf153
  v70 := Tryz.zeroValue153
  t72 := Tryz.underlying155
  a72 := Tryz.isAgg155
  z72 := Tryz.sizeOf155
  v72 := Tryz.zeroValue155
  t75 := Tryz.underlying158
  a75 := Tryz.isAgg158
  z75 := Tryz.sizeOf158
  v75 := Tryz.zeroValue158
  t76 := Tryz.underlying159
  a76 := Tryz.isAgg159
  z76 := Tryz.sizeOf159
  v76 := Tryz.zeroValue159
  t105 := Tryz.underlying238
  a105 := Tryz.isAgg238
  z105 := Tryz.sizeOf238
  v105 := Tryz.zeroValue238
  t107 := Tryz.underlying225
  a107 := Tryz.isAgg225
  z107 := Tryz.sizeOf225
  v107 := Tryz.zeroValue225
  t119 := Tryz.underlying252
  a119 := Tryz.isAgg252
  z119 := Tryz.sizeOf252
  t127 := Tryz.underlying209
  a127 := Tryz.isAgg209
  z127 := Tryz.sizeOf209
  v127 := Tryz.zeroValue209
  t138 := Tryz.underlying254
  a138 := Tryz.isAgg254
  z138 := Tryz.sizeOf254
  v138 := Tryz.zeroValue254
  t139 := Tryz.underlying255
  a139 := Tryz.isAgg255
  z139 := Tryz.sizeOf255
  v139 := Tryz.zeroValue255
  t160 := Tryz.underlying256
  a160 := Tryz.isAgg256
  z160 := Tryz.sizeOf256
  v160 := Tryz.zeroValue256
  t162 := Tryz.underlying250
  a162 := Tryz.isAgg250
  z162 := Tryz.sizeOf250
  v162 := Tryz.zeroValue250
  t164 := Tryz.underlying228
  a164 := Tryz.isAgg228
  z164 := Tryz.sizeOf228
  v164 := Tryz.zeroValue228
  t203 := Tryz.underlying248
  a203 := Tryz.isAgg248
  z203 := Tryz.sizeOf248
  v203 := Tryz.zeroValue248
  t206 := Tryz.underlying262
  a206 := Tryz.isAgg262
  z206 := Tryz.sizeOf262
  v206 := Tryz.zeroValue262
  t208 := Tryz.underlying264
  a208 := Tryz.isAgg264
  z208 := Tryz.sizeOf264
  v208 := Tryz.zeroValue264
  g3 := by kernel_rfl
  g4 := by kernel_rfl
  g13 := by kernel_rfl }
theorem Tryz.Builder_Extra_158 : Builder.Extra Tryz.prog Tryz.lays158_ren := {
  sizeBuilder := by kernel_rfl
  liesBuilder := by kernel_rfl
  t5 := Tryz.underlying5
  a5 := Tryz.isAgg5
  z5 := Tryz.sizeOf5
  v5 := Tryz.zeroValue5
  infoByte := by kernel_rfl
  cellsByte := by kernel_rfl
  sizeByte := by kernel_rfl
  neB5 := by decide }
open Go.RowKit in
theorem Tryz.strings_ToUpper_ascii (s : ByteArray) (w : World) (hs : s.size ≤ 140737488355328) (hascii : ∀ (j : Nat) (b : UInt8), s.data.toList[j]? = some b → b.toNat < 128) :
    Calls Tryz.prog 137 #[.string s] w fun e w' => e = .returned (.string ⟨(Lib.toUpperA s.data.toList).toArray⟩) ∧ Below w.heap.size w w' := Any.strings_ToUpper_ascii Tryz.lays158 Tryz.Builder_Extra_158 s w hs hascii
def Tryz.lays137_ren : Go.Shelf.Ren := ⟨fun | 137 => 154 | 217 => 172 | 266 => 183 | n => n, fun | 9 => 9 | 5 => 5 | 3 => 3 | n => n, fun | n => n⟩
theorem Tryz.lays137 : Go.Proofs.Lays.n137 Tryz.prog Tryz.lays137_ren := {
  mixed := by kernel_rfl
  f137 := Tryz.func154.trans (congrArg some (by kernel_rfl))
  f217 := Tryz.func172.trans (congrArg some (by kernel_rfl))
  f266 := Tryz.func183.trans (congrArg some (by kernel_rfl))
  t3 := Tryz.underlying3
  a3 := Tryz.isAgg3
  z3 := Tryz.sizeOf3
  v3 := Tryz.zeroValue3
  t5 := Tryz.underlying5
  a5 := Tryz.isAgg5
  z5 := Tryz.sizeOf5
  v5 := Tryz.zeroValue5
  t9 := Tryz.underlying9
  a9 := Tryz.isAgg9
  z9 := Tryz.sizeOf9
  v9 := Tryz.zeroValue9 }
open Go.RowKit in
theorem Tryz.strings_IndexByte (s : ByteArray) (c : Int) (w : World) :
    Calls Tryz.prog 154 #[.string s, .int .u8 c] w fun e w' => e = .returned (.int .i64 (Lib.indexByte s.data.toList c.toNat.toUInt8)) ∧ w' = w := Any.strings_IndexByte Tryz.lays137 s c w
def Tryz.lays144_ren : Go.Shelf.Ren := ⟨fun | 144 => 136 | 143 => 157 | 219 => 173 | 217 => 172 | 225 => 184 | 224 => 185 | 267 => 186 | 266 => 183 | 314 => 192 | n => n, fun | 9 => 9 | 4 => 4 | 3 => 3 | 5 => 5 | 46 => 138 | 146 => 205 | 51 => 173 | n => n, fun | 1 => 0 | n => n⟩
theorem Tryz.lays144 : Go.Proofs.Lays.n144 Tryz.prog Tryz.lays144_ren := {
  mixed := by kernel_rfl
  f143 := Tryz.func157.trans (congrArg some (by kernel_rfl))
  f144 := Tryz.func136.trans (congrArg some (by kernel_rfl))
  f217 := Tryz.func172.trans (congrArg some (by kernel_rfl))
  f219 := Tryz.func173.trans (congrArg some (by kernel_rfl))
  f224 := Tryz.func185.trans (congrArg some (by kernel_rfl))
  f225 := Tryz.func184.trans (congrArg some (by kernel_rfl))
  f266 := Tryz.func183.trans (congrArg some (by kernel_rfl))
  f267 := Tryz.func186.trans (congrArg some (by kernel_rfl))
  f314 := Tryz.func192.trans (congrArg some (by kernel_rfl))
  t3 := Tryz.underlying3
  a3 := Tryz.isAgg3
  z3 := Tryz.sizeOf3
  v3 := Tryz.zeroValue3
  t4 := Tryz.underlying4
  a4 := Tryz.isAgg4
  z4 := Tryz.sizeOf4
  v4 := Tryz.zeroValue4
  t5 := Tryz.underlying5
  a5 := Tryz.isAgg5
  z5 := Tryz.sizeOf5
  v5 := Tryz.zeroValue5
  t9 := Tryz.underlying9
  a9 := Tryz.isAgg9
  z9 := Tryz.sizeOf9
  v9 := Tryz.zeroValue9
  t46 := Tryz.underlying138
  a46 := Tryz.isAgg138
  z46 := Tryz.sizeOf138
  v46 := Tryz.zeroValue138
  t51 := Tryz.underlying173
  a51 := Tryz.isAgg173
  z51 := Tryz.sizeOf173
  v51 := Tryz.zeroValue173
  t146 := Tryz.underlying205
  a146 := Tryz.isAgg205
  z146 := Tryz.sizeOf205
  v146 := Tryz.zeroValue205
  g1 := by kernel_rfl }
open Go.RowKit Go.Lib in
theorem Tryz.strings_Contains_one (s : ByteArray) (c : UInt8) (w : World) :
    Calls Tryz.prog 136 #[.string s, .string ⟨#[c]⟩] w fun e w' => e = .returned (.bool (decide (0 ≤ Lib.indexByte s.data.toList c))) ∧ w' = w := Any.strings_Contains_one Tryz.lays144 s c w
def Tryz.lays99_ren : Go.Shelf.Ren := ⟨fun | 99 => 73 | 206 => 104 | n => n, fun | 9 => 9 | 4 => 4 | 3 => 3 | n => n, fun | n => n⟩
theorem Tryz.lays99 : Go.Proofs.Lays.n99 Tryz.prog Tryz.lays99_ren := {
  mixed := by kernel_rfl
  f99 := Tryz.func73.trans (congrArg some (by kernel_rfl))
  f206 := Tryz.func104.trans (congrArg some (by kernel_rfl))
  t3 := Tryz.underlying3
  a3 := Tryz.isAgg3
  z3 := Tryz.sizeOf3
  v3 := Tryz.zeroValue3
  t4 := Tryz.underlying4
  a4 := Tryz.isAgg4
  z4 := Tryz.sizeOf4
  v4 := Tryz.zeroValue4
  t9 := Tryz.underlying9
  a9 := Tryz.isAgg9
  z9 := Tryz.sizeOf9
  v9 := Tryz.zeroValue9 }
open Go.RowKit Go.Lib in
theorem Tryz.strings_HasPrefix (s p : ByteArray) (w : World) :
    Calls Tryz.prog 73 #[.string s, .string p] w fun e w' => e = .returned (.bool (Lib.hasPrefix s.data.toList p.data.toList)) ∧ w' = w := Any.strings_HasPrefix Tryz.lays99 s p w
def Tryz.lays100_ren : Go.Shelf.Ren := ⟨fun | 100 => 87 | 207 => 129 | n => n, fun | 9 => 9 | 4 => 4 | 3 => 3 | n => n, fun | n => n⟩
theorem Tryz.lays100 : Go.Proofs.Lays.n100 Tryz.prog Tryz.lays100_ren := {
  mixed := by kernel_rfl
  f100 := Tryz.func87.trans (congrArg some (by kernel_rfl))
  f207 := Tryz.func129.trans (congrArg some (by kernel_rfl))
  t3 := Tryz.underlying3
  a3 := Tryz.isAgg3
  z3 := Tryz.sizeOf3
  v3 := Tryz.zeroValue3
  t4 := Tryz.underlying4
  a4 := Tryz.isAgg4
  z4 := Tryz.sizeOf4
  v4 := Tryz.zeroValue4
  t9 := Tryz.underlying9
  a9 := Tryz.isAgg9
  z9 := Tryz.sizeOf9
  v9 := Tryz.zeroValue9 }
open Go.RowKit Go.Lib in
theorem Tryz.strings_HasSuffix (s p : ByteArray) (w : World) (hs : s.size ≤ 9223372036854775807) :
    Calls Tryz.prog 87 #[.string s, .string p] w fun e w' => e = .returned (.bool (Lib.hasSuffix s.data.toList p.data.toList)) ∧ w' = w := Any.strings_HasSuffix Tryz.lays100 s p w hs
def Tryz.lays102_ren : Go.Shelf.Ren := ⟨fun | 102 => 88 | 209 => 130 | 207 => 129 | n => n, fun | 9 => 9 | 4 => 4 | 3 => 3 | n => n, fun | n => n⟩
theorem Tryz.lays102 : Go.Proofs.Lays.n102 Tryz.prog Tryz.lays102_ren := {
  mixed := by kernel_rfl
  f102 := Tryz.func88.trans (congrArg some (by kernel_rfl))
  f207 := Tryz.func129.trans (congrArg some (by kernel_rfl))
  f209 := Tryz.func130.trans (congrArg some (by kernel_rfl))
  t3 := Tryz.underlying3
  a3 := Tryz.isAgg3
  z3 := Tryz.sizeOf3
  v3 := Tryz.zeroValue3
  t4 := Tryz.underlying4
  a4 := Tryz.isAgg4
  z4 := Tryz.sizeOf4
  v4 := Tryz.zeroValue4
  t9 := Tryz.underlying9
  a9 := Tryz.isAgg9
  z9 := Tryz.sizeOf9
  v9 := Tryz.zeroValue9 }
open Go.RowKit Go.Lib in
theorem Tryz.strings_TrimSuffix (s p : ByteArray) (w : World) (hs : s.size ≤ 9223372036854775807) :
    Calls Tryz.prog 88 #[.string s, .string p] w fun e w' => e = .returned (.string ⟨(Lib.trimSuffix s.data.toList p.data.toList).toArray⟩) ∧ w' = w := Any.strings_TrimSuffix Tryz.lays102 s p w hs
end Go.Proofs

namespace Go.Proofs.YtnhgichiedninaaGreatDoor
set_option linter.unusedSimpArgs false
set_option linter.unusedVariables false
open Go.RowKit Go.Shelf

theorem prefix_eq (s : ByteArray) (p : List UInt8) {v : Bool} (h : Lib.hasPrefix s.data.toList p = v) (w : World) : Calls Tryz.prog 73 #[.string s, .string ⟨p.toArray⟩] w fun e w' => e = .returned (.bool v) ∧ w = w' :=
  (Tryz.strings_HasPrefix s ⟨p.toArray⟩ w).mono fun e w' ⟨he, hw⟩ => ⟨by rw [he, ← h], hw.symm⟩
set_option maxRecDepth 100000 in
theorem wValid_any (u : ByteArray) (w : World) (hu : u.size ≤ 9223372036854775807) : Calls Tryz.prog 33 #[.string u] w fun e w' => e = .returned (.bool (validU u)) ∧ w = w' := by
  by_cases h200 : u.size ≤ 200
  · have e0 : decide ((u.size : Int) ≤ 200) = true := decide_eq_true (by omega)
    have hv : validU u = (Lib.hasPrefix u.data.toList httpB || Lib.hasPrefix u.data.toList httpsB) := by simp [validU, h200]
    rw [hv]
    cases h1 : Lib.hasPrefix u.data.toList httpB with
    | true =>
      have H1 := hid (fun w => prefix_eq u httpB h1 w)
      have H2 := hid True.intro
      clear hv h1
      go_enter Tryz.func33, Tryz.ntmps33
      go_wp2_with fail
      refine (H1.out _).mono ?_
      rintro e w1 ⟨rfl, rfl⟩
      go_wp2
      go_ret
      exact ⟨rfl, rfl⟩
    | false =>
      cases h2 : Lib.hasPrefix u.data.toList httpsB with
      | true =>
        have H1 := hid (fun w => prefix_eq u httpB h1 w)
        have H2 := hid (fun w => prefix_eq u httpsB h2 w)
        clear hv h1 h2
        go_enter Tryz.func33, Tryz.ntmps33
        go_wp2_with fail
        refine (H1.out _).mono ?_
        rintro e w1 ⟨rfl, rfl⟩
        go_wp2_with fail
        refine (H2.out _).mono ?_
        rintro e w1 ⟨rfl, rfl⟩
        go_wp2
        go_ret
        exact ⟨rfl, rfl⟩
      | false =>
        have H1 := hid (fun w => prefix_eq u httpB h1 w)
        have H2 := hid (fun w => prefix_eq u httpsB h2 w)
        clear hv h1 h2
        go_enter Tryz.func33, Tryz.ntmps33
        go_wp2_with fail
        refine (H1.out _).mono ?_
        rintro e w1 ⟨rfl, rfl⟩
        go_wp2_with fail
        refine (H2.out _).mono ?_
        rintro e w1 ⟨rfl, rfl⟩
        go_wp2
        go_ret
        exact ⟨rfl, rfl⟩
  · have e0 : decide ((u.size : Int) ≤ 200) = false := decide_eq_false (by omega)
    have hv : validU u = false := by simp [validU, h200]
    rw [hv]
    clear hv
    go_enter Tryz.func33, Tryz.ntmps33
    go_wp2
    go_ret
    exact ⟨rfl, rfl⟩
set_option maxRecDepth 100000 in
theorem wrValid_any (u : ByteArray) (w : World) (hu : u.size ≤ 9223372036854775807) : Calls Tryz.prog 43 #[.string u] w fun e w' => e = .returned (.bool (validU u)) ∧ w = w' := by
  by_cases h200 : u.size ≤ 200
  · have e0 : decide ((u.size : Int) ≤ 200) = true := decide_eq_true (by omega)
    have hv : validU u = (Lib.hasPrefix u.data.toList httpB || Lib.hasPrefix u.data.toList httpsB) := by simp [validU, h200]
    rw [hv]
    cases h1 : Lib.hasPrefix u.data.toList httpB with
    | true =>
      have H1 := hid (fun w => prefix_eq u httpB h1 w)
      have H2 := hid True.intro
      clear hv h1
      go_enter Tryz.func43, Tryz.ntmps43
      go_wp2_with fail
      refine (H1.out _).mono ?_
      rintro e w1 ⟨rfl, rfl⟩
      go_wp2
      go_ret
      exact ⟨rfl, rfl⟩
    | false =>
      cases h2 : Lib.hasPrefix u.data.toList httpsB with
      | true =>
        have H1 := hid (fun w => prefix_eq u httpB h1 w)
        have H2 := hid (fun w => prefix_eq u httpsB h2 w)
        clear hv h1 h2
        go_enter Tryz.func43, Tryz.ntmps43
        go_wp2_with fail
        refine (H1.out _).mono ?_
        rintro e w1 ⟨rfl, rfl⟩
        go_wp2_with fail
        refine (H2.out _).mono ?_
        rintro e w1 ⟨rfl, rfl⟩
        go_wp2
        go_ret
        exact ⟨rfl, rfl⟩
      | false =>
        have H1 := hid (fun w => prefix_eq u httpB h1 w)
        have H2 := hid (fun w => prefix_eq u httpsB h2 w)
        clear hv h1 h2
        go_enter Tryz.func43, Tryz.ntmps43
        go_wp2_with fail
        refine (H1.out _).mono ?_
        rintro e w1 ⟨rfl, rfl⟩
        go_wp2_with fail
        refine (H2.out _).mono ?_
        rintro e w1 ⟨rfl, rfl⟩
        go_wp2
        go_ret
        exact ⟨rfl, rfl⟩
  · have e0 : decide ((u.size : Int) ≤ 200) = false := decide_eq_false (by omega)
    have hv : validU u = false := by simp [validU, h200]
    rw [hv]
    clear hv
    go_enter Tryz.func43, Tryz.ntmps43
    go_wp2
    go_ret
    exact ⟨rfl, rfl⟩
end Go.Proofs.YtnhgichiedninaaGreatDoor

namespace Go.Proofs.YtnhgichiedninaaGreatDoor
set_option linter.unusedSimpArgs false
set_option linter.unusedVariables false
open Go.RowKit

theorem new1_any (s : ByteArray) (w : World) (hs : s.size ≤ maxLen) : Calls Tryz.prog 32 #[.string s] w fun e w' => e = .returned (.bool (!validU s)) ∧ w = w' := by
  unfold maxLen at hs
  have HV := hid (wValid_any s w (by omega))
  go_enter Tryz.func32, Tryz.ntmps32
  go_wp2_with fail
  refine HV.out.mono ?_
  rintro e w1 ⟨rfl, rfl⟩
  go_wp2
  go_ret
  exact ⟨rfl, rfl⟩
theorem allU_upto {p : List ByteArray} {k : Nat} (hk : ¬ k < p.length) (h : ∀ (j : Nat) (hj : j < p.length), j < k → validU p[j] = true) : p.all validU = true := by
  rw [List.all_eq_true]
  intro x hx
  obtain ⟨j, hj, rfl⟩ := List.mem_iff_getElem.1 hx
  exact h j hj (by omega)
theorem allU_not {p : List ByteArray} {k : Nat} (hk : k < p.length) (h : validU p[k] = false) : p.all validU = false := by
  rw [List.all_eq_false]
  exact ⟨_, List.getElem_mem hk, by simp [h]⟩
set_option maxHeartbeats 1000000 in
theorem idxU_any (a : Option Addr) (c : Nat) (p : List ByteArray) (w : World) (h : StrsAt w a c p) :
    Calls Tryz.prog 72 #[.slice a p.length c, .func (.func 32) #[] #[]] w fun e w' => ∃ v : Int, e = .returned (.int .i64 v) ∧ decide (v ≥ 0) = !(p.all validU) ∧ w = w' := by
  have hm1 := h.room; have hm2 := h.cap
  unfold maxLen at hm2
  by_cases hz : 0 < p.length
  · obtain ⟨b1, o1, rfl, hb1, hc1⟩ := h.get hz
    have HS := hid h.small
    clear h
    go_enter Tryz.func72, Tryz.ntmps72
    go_wp2
    go_loopw [8] (fun i wr => ∃ k : Nat, i = .int .i64 k ∧ k ≤ p.length ∧ (∀ (j : Nat) (hj : j < p.length), j < k → validU p[j] = true) ∧ wr = w) (fun i _ => p.length - (intOf i).toNat)
    case atStart => exact ⟨0, rfl, by omega, by intros; omega, rfl⟩
    case round =>
      obtain ⟨k, rfl, hk, hb, rfl⟩ := hrel
      have HB := hid hb
      clear hb
      by_cases hlt : k < p.length
      · have g1 := hc1 k hlt
        have HC1 := hid hc1
        clear hc1
        have hsz : (p[k]).size ≤ maxLen := HS.out _ (List.getElem_mem hlt)
        have HP := hid (new1_any p[k] wr hsz)
        clear hsz
        cases he : validU p[k] with
        | true =>
          rw [he] at HP
          have HE := hid he
          clear he
          go_wp2_with (go_at_call 32; refine HP.out.mono ?_; rintro e w1 ⟨rfl, rfl⟩)
          exact ⟨⟨k + 1, by simp, by omega, fun j hj h => by rcases Nat.lt_succ_iff_lt_or_eq.1 h with h | h; exact HB.out j hj h; subst h; exact HE.out, trivial⟩, by simp [intOf]; omega⟩
        | false =>
          rw [he] at HP
          have HE := hid (allU_not hlt he)
          clear he
          go_wp2_with (go_at_call 32; refine HP.out.mono ?_; rintro e w1 ⟨rfl, rfl⟩)
          go_ret
          exact ⟨k, rfl, by rw [HE.out]; simp, rfl⟩
      · have HE := hid (allU_upto hlt (fun j hj h => HB.out j hj h))
        clear hc1
        go_wp2
        go_ret
        exact ⟨-1, rfl, by rw [HE.out]; rfl, rfl⟩
  · obtain rfl : p = [] := List.eq_nil_of_length_eq_zero (by omega)
    clear h
    go_enter Tryz.func72, Tryz.ntmps72
    go_wp2
    refine wp_loop_rounds 1 ?_
    rw [rounds_succ]
    go_wp2
    go_ret
    exact ⟨-1, rfl, rfl, rfl⟩
set_option maxHeartbeats 1000000 in
theorem conU_any (a : Option Addr) (c : Nat) (p : List ByteArray) (w : World) (h : StrsAt w a c p) :
    Calls Tryz.prog 31 #[.slice a p.length c, .func (.func 32) #[] #[]] w fun e w' => e = .returned (.bool (!(p.all validU))) ∧ w = w' := by
  have HI := hid (idxU_any a c p w h)
  clear h
  go_enter Tryz.func31, Tryz.ntmps31
  go_wp2_with fail
  refine HI.out.mono ?_
  rintro e w1 ⟨v, rfl, hv, rfl⟩
  have HV := hid hv
  clear hv
  go_wp2
  go_ret
  exact ⟨ret_bool HV.out, rfl⟩
end Go.Proofs.YtnhgichiedninaaGreatDoor
